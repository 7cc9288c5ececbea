/- Shares at places: what the loops compute, as plain functions. No conditions. -/
import Derived.Test.YtgkciionmhoofaaPriP
namespace Go.Proofs.Ytgkciionmhoofaa
open Go.RowKit
set_option maxRecDepth 100000
set_option linter.unusedVariables false
set_option linter.unusedSimpArgs false

def gI (zs : List Int) (i : Nat) : Int := zs[i]?.getD 0
theorem gI_eq {zs : List Int} {i : Nat} (h : i < zs.length) : gI zs i = zs[i] := by simp [gI, h]
/-- The number with which another one makes 1. -/
def invN (p n : Nat) : Nat := n ^ (p - 2) % p
def invOk (p : Nat) : Bool := (List.range p).all fun n => n == 0 || n * invN p n % p == 1
theorem inv_all : invOk 7 = true ∧ invOk 11 = true ∧ invOk 13 = true ∧ invOk 17 = true ∧ invOk 31 = true ∧ invOk 127 = true ∧ invOk 257 = true := by decide +kernel
def invI (p n : Int) : Int := (invN p.toNat n.toNat : Nat)
theorem invOk_of {p : Int} (h : prm p = true) : invOk p.toNat = true := by
  obtain ⟨h1, h2, h3, h4, h5, h6, h7⟩ := inv_all
  rcases prm_cases h with rfl | rfl | rfl | rfl | rfl | rfl | rfl <;> assumption
theorem invI_mul {p n : Int} (hp : prm p = true) (h1 : 1 ≤ n) (h2 : n < p) : n * invI p n % p = 1 := by
  have h := invOk_of hp
  have hb := prm_bd hp
  obtain ⟨q, rfl⟩ := Int.eq_ofNat_of_zero_le (show 0 ≤ p by omega)
  obtain ⟨m, rfl⟩ := Int.eq_ofNat_of_zero_le (show 0 ≤ n by omega)
  rw [Int.toNat_natCast] at h
  unfold invOk at h
  rw [List.all_eq_true] at h
  have := h m (by rw [List.mem_range]; omega)
  simp only [Bool.or_eq_true, beq_iff_eq] at this
  rcases this with h0 | h0
  · omega
  · unfold invI; rw [Int.toNat_natCast, Int.toNat_natCast]; exact_mod_cast h0
theorem invI_bd {p n : Int} (hp : prm p = true) : 0 ≤ invI p n ∧ invI p n < p := by
  have hb := prm_bd hp
  unfold invI invN
  have := Nat.mod_lt (n.toNat ^ (p.toNat - 2)) (show 0 < p.toNat by omega)
  omega
theorem invN_step (p n k : Nat) : n ^ k % p * n % p = n ^ (k + 1) % p := by
  rw [Nat.pow_succ, Nat.mul_mod (n ^ k) n p, Nat.mul_mod (n ^ k % p) n p, Nat.mod_mod]
/-- It is the only one. -/
theorem inv_one {p a b c : Int} (hp : 1 < p) (h1 : a * b % p = 1) (h2 : a * c % p = 1) (hb : 0 ≤ b) (hb2 : b < p) (hc : 0 ≤ c) (hc2 : c < p) : b = c := by
  have e1 : b * (a * c) % p = b := by rw [Int.mul_emod, h2]; rw [Int.emod_eq_of_lt hb hb2, Int.mul_one, Int.emod_eq_of_lt hb hb2]
  have e2 : c * (a * b) % p = c := by rw [Int.mul_emod, h1]; rw [Int.emod_eq_of_lt hc hc2, Int.mul_one, Int.emod_eq_of_lt hc hc2]
  have e3 : b * (a * c) = c * (a * b) := by rw [Int.mul_left_comm, Int.mul_comm b c, Int.mul_left_comm a c b]
  rw [e3, e2] at e1; exact e1.symm
theorem mul_ne {p a b : Int} (hp : prm p = true) (ha : 0 < a) (ha2 : a < p) (hb : b % p ≠ 0) : a * b % p ≠ 0 := by
  have hpb := prm_bd hp
  intro h
  have h1 := Int.emod_nonneg b (show p ≠ 0 by omega)
  have h2 := Int.emod_lt_of_pos b (show 0 < p by omega)
  have hi := invI_mul hp (show 1 ≤ b % p by omega) h2
  have e1 : a * (b % p * invI p (b % p)) % p = a := by rw [Int.mul_emod, hi, Int.mul_one, Int.emod_emod_of_dvd _ (Int.dvd_refl p), Int.emod_eq_of_lt (by omega) ha2]
  have e2 : a * (b % p * invI p (b % p)) % p = 0 := by
    rw [← Int.mul_assoc, Int.mul_emod]
    rw [show a * (b % p) % p = 0 by rw [Int.mul_emod, Int.emod_emod_of_dvd _ (Int.dvd_refl p), ← Int.mul_emod, h]]
    simp
  omega
def prodF (p x : Int) (i : Nat) : Nat → List Int → Int → Int
  | _, [], a => a
  | k, o :: os, a => prodF p x i (k + 1) os (if k = i then a else a * (x - o + p) % p)
theorem prodF_bd {p : Int} (hp : 0 < p) (x : Int) (i k : Nat) (os : List Int) {a : Int} (h0 : 0 ≤ a) (h1 : a < p) : 0 ≤ prodF p x i k os a ∧ prodF p x i k os a < p := by
  induction os generalizing k a with
  | nil => exact ⟨h0, h1⟩
  | cons o os ih =>
    rw [prodF]; split
    · exact ih _ h0 h1
    · exact ih _ (Int.emod_nonneg _ (by omega)) (Int.emod_lt_of_pos _ hp)
theorem prodF_pos {p : Int} (hp : prm p = true) {x : Int} (hx : 0 ≤ x ∧ x < p) (i k : Nat) (os : List Int) (ho : ∀ o ∈ os, 0 ≤ o ∧ o < p) (hd : ∀ j, (h : j < os.length) → k + j ≠ i → x ≠ os[j]) {a : Int} (h0 : 0 < a) (h1 : a < p) : 0 < prodF p x i k os a := by
  have hb := prm_bd hp
  induction os generalizing k a with
  | nil => exact h0
  | cons o os ih =>
    have hd' : ∀ j, (h : j < os.length) → k + 1 + j ≠ i → x ≠ os[j] := fun j h e => by
      have := hd (j + 1) (by simpa using h) (by omega)
      simpa using this
    have ho' : ∀ o ∈ os, 0 ≤ o ∧ o < p := fun y hy => ho y (List.mem_cons_of_mem _ hy)
    rw [prodF]; split
    · exact ih _ ho' hd' h0 h1
    · have hxo : x ≠ o := by have := hd 0 (by simp) (by simpa using ‹_›); simpa using this
      have hoo := ho o (by simp)
      have hne : (x - o + p) % p ≠ 0 := by
        intro h
        by_cases hlt : x < o
        · rw [Int.emod_eq_of_lt (by omega) (by omega)] at h; omega
        · have e : (x - o + p) % p = x - o := by rw [Int.add_emod_right, Int.emod_eq_of_lt (by omega) (by omega)]
          omega
      have hm := mul_ne hp h0 h1 hne
      have := Int.emod_nonneg (a * (x - o + p)) (show p ≠ 0 by omega)
      exact ih _ ho' hd' (by omega) (Int.emod_lt_of_pos _ (by omega))
def thF (p : Int) (ps ss : List Int) (x : Int) : Nat → Nat → Int → Int
  | 0, _, out => out
  | r + 1, i, out => thF p ps ss x r (i + 1) ((out + prodF p x i 0 ps (gI ss i) * invI p (prodF p (gI ps i) i 0 ps 1)) % p)
def thr (p : Int) (ps ss : List Int) (x : Int) : Int := thF p ps ss x ps.length 0 0
theorem thF_bd {p : Int} (hp : 0 < p) (ps ss : List Int) (x : Int) (r i : Nat) {out : Int} (h0 : 0 ≤ out) (h1 : out < p) : 0 ≤ thF p ps ss x r i out ∧ thF p ps ss x r i out < p := by
  induction r generalizing i out with
  | zero => exact ⟨h0, h1⟩
  | succ r ih => rw [thF]; exact ih _ (Int.emod_nonneg _ (by omega)) (Int.emod_lt_of_pos _ hp)
theorem thr_bd {p : Int} (hp : 0 < p) (ps ss : List Int) (x : Int) : 0 ≤ thr p ps ss x ∧ thr p ps ss x < p := thF_bd hp ps ss x _ _ (by omega) hp
/-- Different places. -/
def dstF (zs : List Int) : Nat → Nat → Bool
  | 0, _ => true
  | r + 1, i => !memB (zs.take i) (gI zs i) && dstF zs r (i + 1)
def dst0 (zs : List Int) : Nat → Nat → Bool
  | 0, _ => true
  | r + 1, i => (!memB (zs.take i) (gI zs i) && !(gI zs i == 0)) && dst0 zs r (i + 1)
theorem dst0_eq (zs : List Int) (r i : Nat) (h : i + r = zs.length) : dst0 zs r i = (!memB (zs.drop i) 0 && dstF zs r i) := by
  induction r generalizing i with
  | zero => rw [List.drop_of_length_le (by omega)]; rfl
  | succ r ih =>
    rw [dst0, dstF, ih _ (by omega), List.drop_eq_getElem_cons (show i < zs.length by omega), gI_eq (show i < zs.length by omega)]
    simp only [memB, List.any_cons]
    cases (List.take i zs).any fun z => z == zs[i] <;> cases zs[i] == 0 <;> simp
theorem memB_iff (zs : List Int) (x : Int) : memB zs x = true ↔ x ∈ zs := by
  simp only [memB, List.any_eq_true, beq_iff_eq]
  exact ⟨fun ⟨y, h, e⟩ => e ▸ h, fun h => ⟨x, h, rfl⟩⟩
theorem dstF_at {zs : List Int} {r i : Nat} (h : dstF zs r i = true) (j : Nat) (h1 : i ≤ j) (h2 : j < i + r) (k : Nat) (hk : k < j) (hj : j < zs.length) : zs[k] ≠ zs[j] := by
  induction r generalizing i with
  | zero => omega
  | succ r ih =>
    rw [dstF, Bool.and_eq_true] at h
    by_cases e : i = j
    · subst e
      intro e
      have h3 : memB (zs.take i) (gI zs i) = true := (memB_iff _ _).2 (by rw [gI_eq hj, ← e, List.mem_take_iff_getElem]; exact ⟨k, by omega, rfl⟩)
      rw [h3] at h; simp at h
    · exact ih h.2 (by omega) (by omega)
def shOk (p : Int) (ps ss : List Int) : Bool := nums p ps 1 8 && nums p ss 1 8 && (ps.length == ss.length) && !memB ps 0 && dstF ps ps.length 0
def jsV (p : Int) (ps ss : List Int) : Int := if shOk p ps ss = true then thr p ps ss 0 else 0
def fitF (p : Int) (ps ss : List Int) (n : Nat) : Nat → Nat → Bool
  | 0, _ => true
  | r + 1, i => (thr p (ps.take n) (ss.take n) (gI ps i) == gI ss i) && fitF p ps ss n r (i + 1)
def fsOk (p need : Int) (ps ss : List Int) : Bool := shOk p ps ss && inB need 1 8
def fsN (need : Int) (ps : List Int) : Nat := min need.toNat ps.length
def fsV (p need : Int) (ps ss : List Int) : Bool := fsOk p need ps ss && fitF p ps ss (fsN need ps) (ps.length - fsN need ps) (fsN need ps)
end Go.Proofs.Ytgkciionmhoofaa
