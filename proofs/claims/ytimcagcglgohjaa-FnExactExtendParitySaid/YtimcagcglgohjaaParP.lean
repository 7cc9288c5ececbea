/- Words, messages and duals of parities: what the loops compute, as plain functions on lists. No conditions. -/
import Derived.Test.YtimcagcglgohjaaEchP
namespace Go.Proofs.Ytimcagcglgohjaa
open Go.RowKit
set_option maxRecDepth 100000
set_option linter.unusedVariables false
set_option linter.unusedSimpArgs false

theorem hasD_bit (x i : Nat) : hasD x i = x.testBit i := by
  rw [Nat.testBit_eq_decide_div_mod_eq]; unfold hasD; rw [Bool.eq_iff_iff]; simp
theorem hasD_xor (x y i : Nat) : hasD (x ^^^ y) i = ((hasD x i) ^^ (hasD y i)) := by simp [hasD_bit]
theorem hasD_zero (i : Nat) : hasD 0 i = false := by simp [hasD]
/-- What clearing leaves in each row. -/
theorem clrF_gt (k i : Nat) (r j : Nat) (ns : List Nat) (hk : k < ns.length) (hr : j + r ≤ ns.length) (m : Nat) (hm : m < ns.length) :
    gt (clrF k i r j ns) m = if j ≤ m ∧ m < j + r ∧ m ≠ k ∧ hasD (gt ns m) i = true then gt ns m ^^^ gt ns k else gt ns m := by
  induction r generalizing j ns with
  | zero => rw [clrF, if_neg (by omega)]
  | succ r ih =>
    rw [clrF]
    by_cases hc : j ≠ k ∧ hasD (gt ns j) i = true
    · rw [if_pos hc, ih _ _ (by simpa using hk) (by simp; omega) (by simpa using hm)]
      have hjl : j < ns.length := by omega
      have e1 : gt (ns.set j (gt ns j ^^^ gt ns k)) k = gt ns k := by
        unfold gt; rw [List.getElem?_set_ne hc.1]
      by_cases e : m = j
      · subst e
        have e2 : gt (ns.set m (gt ns m ^^^ gt ns k)) m = gt ns m ^^^ gt ns k := by simp [gt, hm]
        rw [if_neg (by omega), if_pos ⟨by omega, by omega, hc.1, hc.2⟩, e2]
      · have e2 : gt (ns.set j (gt ns j ^^^ gt ns k)) m = gt ns m := by unfold gt; rw [List.getElem?_set_ne (fun h => e h.symm)]
        rw [e1, e2]
        by_cases hcc : j ≤ m ∧ m < j + (r + 1) ∧ m ≠ k ∧ hasD (gt ns m) i = true
        · rw [if_pos hcc, if_pos ⟨by omega, by omega, hcc.2.2⟩]
        · rw [if_neg hcc, if_neg (fun h => hcc ⟨by omega, by omega, h.2.2⟩)]
    · rw [if_neg hc, ih _ _ hk (by omega) hm]
      by_cases e : m = j
      · subst e; rw [if_neg (by omega), if_neg (fun h => hc h.2.2)]
      · by_cases hcc : j ≤ m ∧ m < j + (r + 1) ∧ m ≠ k ∧ hasD (gt ns m) i = true
        · rw [if_pos hcc, if_pos ⟨by omega, by omega, hcc.2.2⟩]
        · rw [if_neg hcc, if_neg (fun h => hcc ⟨by omega, by omega, h.2.2⟩)]
theorem swp_gt (ns : List Nat) (k m : Nat) (hk : k < ns.length) (hm : m < ns.length) (j : Nat) : gt (swp ns k m) j = if j = k then gt ns m else if j = m then gt ns k else gt ns j := by
  unfold swp
  by_cases h1 : j = k
  · subst h1; rw [if_pos rfl]; simp [gt, hk]
  · rw [if_neg h1]
    have e : gt ((ns.set m (gt ns k)).set k (gt ns m)) j = gt (ns.set m (gt ns k)) j := by unfold gt; rw [List.getElem?_set_ne (fun h => h1 h.symm)]
    rw [e]
    by_cases h2 : j = m
    · subst h2; rw [if_pos rfl]; simp [gt, hm]
    · rw [if_neg h2]; unfold gt; rw [List.getElem?_set_ne (fun h => h2 h.symm)]
/-- Each of the first k rows has a digit that no other row has. -/
def Piv (ns : List Nat) (k i : Nat) : Prop := ∀ j, j < k → ∃ b, i ≤ b ∧ hasD (gt ns j) b = true ∧ ∀ l, l < ns.length → l ≠ j → hasD (gt ns l) b = false
theorem seek_has {i : Nat} {ns : List Nat} {k : Nat} (h : seek i ns k < ns.length) : hasD (gt ns (seek i ns k)) i = true := by
  unfold seek at h ⊢
  have hl : (ns.drop k).findIdx (fun x => hasD x i) < (ns.drop k).length := by rw [List.length_drop]; omega
  have := List.findIdx_getElem (w := hl)
  rw [List.getElem_drop] at this
  rw [gt_eq (by omega)]; exact this
theorem piv_step {ns : List Nat} {k i : Nat} (hk : k ≤ ns.length) (h : Piv ns k (i + 1)) : Piv (stepE i ns k).1 (stepE i ns k).2 i := by
  unfold stepE
  by_cases hs : seek i ns k < ns.length
  · rw [if_pos hs]
    have hkl : k < ns.length := by have := seek_ge i ns k; omega
    have hge := seek_ge i ns k
    have hhas := seek_has hs
    generalize seek i ns k = m at *
    have hg : ∀ l, l < ns.length → gt (clrF k i ns.length 0 (swp ns k m)) l = if l ≠ k ∧ hasD (gt (swp ns k m) l) i = true then gt (swp ns k m) l ^^^ gt (swp ns k m) k else gt (swp ns k m) l := fun l hl => by
      rw [clrF_gt k i ns.length 0 (swp ns k m) (by rw [swp_len]; exact hkl) (by rw [swp_len]; omega) l (by rw [swp_len]; exact hl)]
      by_cases hc : l ≠ k ∧ hasD (gt (swp ns k m) l) i = true
      · rw [if_pos hc, if_pos ⟨by omega, by omega, hc⟩]
      · rw [if_neg hc, if_neg (fun h => hc h.2.2)]
    have hk' : gt (swp ns k m) k = gt ns m := by rw [swp_gt ns k m hkl hs, if_pos rfl]
    intro j hj
    by_cases e : j = k
    · subst e
      refine ⟨i, Nat.le_refl _, ?_, fun l hl hlj => ?_⟩
      · rw [hg j hkl, if_neg (by omega), hk']; exact hhas
      · rw [clrF_len, swp_len] at hl
        rw [hg l hl]
        by_cases hc : hasD (gt (swp ns j m) l) i = true
        · rw [if_pos ⟨hlj, hc⟩, hasD_xor, hc, hk', hhas]; rfl
        · rw [if_neg (fun h => hc h.2)]; simpa using hc
    · obtain ⟨b, hb, h1, h2⟩ := h j (by omega)
      have hsw : ∀ l, l < ns.length → hasD (gt (swp ns k m) l) b = if l = j then true else false := fun l hl => by
        rw [swp_gt ns k m hkl hs]
        by_cases e1 : l = k
        · rw [if_pos e1, if_neg (by omega)]; exact h2 m hs (by omega)
        · rw [if_neg e1]
          by_cases e2 : l = m
          · rw [if_pos e2, if_neg (by omega)]; exact h2 k hkl (by omega)
          · rw [if_neg e2]
            by_cases e3 : l = j
            · rw [if_pos e3, e3]; exact h1
            · rw [if_neg e3]; exact h2 l hl e3
      have hall : ∀ l, l < ns.length → hasD (gt (clrF k i ns.length 0 (swp ns k m)) l) b = if l = j then true else false := fun l hl => by
        rw [hg l hl]
        split
        · rw [hasD_xor, hsw l hl, hsw k hkl, if_neg (show ¬ k = j by omega)]; simp
        · exact hsw l hl
      refine ⟨b, by omega, by rw [hall j (by omega), if_pos rfl], fun l hl hlj => ?_⟩
      rw [clrF_len, swp_len] at hl
      rw [hall l hl, if_neg hlj]
  · rw [if_neg hs]
    intro j hj
    obtain ⟨b, hb, h1, h2⟩ := h j hj
    exact ⟨b, by omega, h1, h2⟩
theorem piv_ech (i : Nat) (ns : List Nat) (k : Nat) (hk : k ≤ ns.length) (h : Piv ns k i) : Piv (ech i ns k).1 (ech i ns k).2 0 := by
  induction i generalizing ns k with
  | zero => exact h
  | succ i ih => rw [ech]; exact ih _ _ (by rw [stepE_len]; exact (stepE_k i ns k hk).1) (piv_step hk h)
/-- Where all rows have their step none of them is 0. -/
theorem echR_pos {n : Nat} {ns : List Nat} (h : echN n ns = ns.length) (j : Nat) (hj : j < ns.length) : 0 < gt (echR n ns) j := by
  have hp := piv_ech n ns 0 (Nat.zero_le _) (fun j hj => by omega)
  obtain ⟨b, _, h1, _⟩ := hp j (by show j < echN n ns; omega)
  rcases Nat.eq_zero_or_pos (gt (echR n ns) j) with h0 | h0
  · have h1' : hasD (gt (echR n ns) j) b = true := h1
    rw [h0, hasD_zero] at h1'; cases h1'
  · exact h0

/-- The word of a message. -/
def encF (ns : List Nat) (m : Nat) : Nat → Nat → Nat → Nat
  | 0, _, word => word
  | r + 1, i, word => encF ns m r (i + 1) (if hasD m i = true then word ^^^ gt ns i else word)
def enc (ns : List Nat) (m : Nat) : Nat := encF ns m ns.length 0 0
theorem encF_lt {w : Nat} {ns : List Nat} (h : Lt (2 ^ w) ns) (m r i word : Nat) (hw : word < 2 ^ w) : encF ns m r i word < 2 ^ w := by
  induction r generalizing i word with
  | zero => exact hw
  | succ r ih => rw [encF]; apply ih; split
                 · exact Nat.xor_lt_two_pow hw (h.gt i (Nat.two_pow_pos w))
                 · exact hw
theorem enc_lt {w : Nat} {ns : List Nat} (h : Lt (2 ^ w) ns) (m : Nat) : enc ns m < 2 ^ w := encF_lt h m _ _ _ (Nat.two_pow_pos w)
/-- The message of a word. -/
def decF (ns : List Nat) (x : Nat) : Nat → Nat → Option Nat
  | 0, _ => none
  | r + 1, m => if enc ns m = x then some m else decF ns x r (m + 1)
def dec (ns : List Nat) (x : Nat) : Option Nat := decF ns x (2 ^ ns.length) 0
theorem decF_lt {ns : List Nat} {x r m y : Nat} (h : decF ns x r m = some y) : y < m + r := by
  induction r generalizing m with
  | zero => cases h
  | succ r ih =>
    rw [decF] at h
    split at h
    · have := Option.some.inj h; omega
    · have := ih h; omega
/-- The greatest digits of rows. -/
def topF (ns : List Nat) : Nat → Nat → Nat → Nat
  | 0, _, t => t
  | r + 1, i, t => topF ns r (i + 1) (t ||| 2 ^ (gt ns i).log2)
def tops (ns : List Nat) : Nat := topF ns ns.length 0 0
def dwF (ns : List Nat) (k : Nat) : Nat → Nat → Nat → Nat
  | 0, _, t => t
  | r + 1, i, t => dwF ns k r (i + 1) (if hasD (gt ns i) k = true then t ||| 2 ^ (gt ns i).log2 else t)
def dw (ns : List Nat) (k : Nat) : Nat := dwF ns k ns.length 0 (2 ^ k)
def duF (ns : List Nat) : Nat → Nat → List Nat → List Nat
  | 0, _, out => out
  | r + 1, k, out => duF ns r (k + 1) (if hasD (tops ns) k = true then out else out ++ [dw ns k])
/-- The rows of the dual code of rows in steps. -/
def du (n : Nat) (ns : List Nat) : List Nat := duF ns n 0 []
def dualR (n : Nat) (ns : List Nat) : List Nat := du n (echR n ns)
theorem log2_lt' {w x : Nat} (h : x < 2 ^ w) (h0 : 0 < x) : 2 ^ x.log2 < 2 ^ w := by
  have := Nat.log2_self_le (n := x) (by omega)
  omega
theorem log2_lt_w {w x : Nat} (h : x < 2 ^ w) (hw : 0 < w) : x.log2 < w := by
  rcases Nat.eq_zero_or_pos x with h0 | h0
  · subst h0; simpa using hw
  · exact (Nat.log2_lt (by omega)).2 h
theorem topF_lt {w : Nat} {ns : List Nat} (hw : 0 < w) (h : Lt (2 ^ w) ns) (r i t : Nat) (ht : t < 2 ^ w) : topF ns r i t < 2 ^ w := by
  induction r generalizing i t with
  | zero => exact ht
  | succ r ih => rw [topF]; apply ih; exact Nat.or_lt_two_pow ht (Nat.pow_lt_pow_right (by decide) (log2_lt_w (h.gt i (Nat.two_pow_pos w)) hw))
theorem tops_lt {w : Nat} {ns : List Nat} (hw : 0 < w) (h : Lt (2 ^ w) ns) : tops ns < 2 ^ w := topF_lt hw h _ _ _ (Nat.two_pow_pos w)
theorem dwF_lt {w : Nat} {ns : List Nat} (hw : 0 < w) (h : Lt (2 ^ w) ns) (k r i t : Nat) (ht : t < 2 ^ w) : dwF ns k r i t < 2 ^ w := by
  induction r generalizing i t with
  | zero => exact ht
  | succ r ih => rw [dwF]; apply ih; split
                 · exact Nat.or_lt_two_pow ht (Nat.pow_lt_pow_right (by decide) (log2_lt_w (h.gt i (Nat.two_pow_pos w)) hw))
                 · exact ht
theorem dw_lt {w : Nat} {ns : List Nat} (hw : 0 < w) (h : Lt (2 ^ w) ns) (k : Nat) (hk : k < w) : dw ns k < 2 ^ w := dwF_lt hw h _ _ _ _ (Nat.pow_lt_pow_right (by decide) hk)
theorem duF_lt {w : Nat} {ns : List Nat} (h : Lt (2 ^ w) ns) (r k : Nat) (out : List Nat) (ho : Lt (2 ^ w) out) (hk : k + r ≤ w) : Lt (2 ^ w) (duF ns r k out) := by
  induction r generalizing k out with
  | zero => exact ho
  | succ r ih => rw [duF]; apply ih
                 · split
                   · exact ho
                   · intro x hx
                     rcases List.mem_append.1 hx with hx | hx
                     · exact ho x hx
                     · simp only [List.mem_singleton] at hx; subst hx; exact dw_lt (by omega) h k (by omega)
                 · omega
theorem duF_len (ns : List Nat) (r k : Nat) (out : List Nat) : (duF ns r k out).length ≤ out.length + r := by
  induction r generalizing k out with
  | zero => simp [duF]
  | succ r ih =>
    rw [duF]; split
    · have := ih (k + 1) out; omega
    · have := ih (k + 1) (out ++ [dw ns k]); simp only [List.length_append, List.length_singleton] at this; omega
theorem du_lt {w : Nat} {ns : List Nat} (h : Lt (2 ^ w) ns) : Lt (2 ^ w) (du w ns) := duF_lt h w 0 [] (fun x hx => by cases hx) (by omega)
theorem du_len (w : Nat) (ns : List Nat) : (du w ns).length ≤ w := by have := duF_len ns w 0 []; simpa [du] using this
/-- The syndrome of a word. -/
def synF (ds : List Nat) (x : Nat) : Nat → Nat → Nat → Nat
  | 0, _, t => t
  | r + 1, i, t => synF ds x r (i + 1) (if odd (gt ds i &&& x) = true then t ||| 2 ^ i else t)
def syn (ds : List Nat) (x : Nat) : Nat := synF ds x ds.length 0 0
theorem synF_lt (ds : List Nat) (x r i t : Nat) (ht : t < 2 ^ i) : synF ds x r i t < 2 ^ (i + r) := by
  induction r generalizing i t with
  | zero => exact ht
  | succ r ih =>
    rw [synF, show i + (r + 1) = (i + 1) + r by omega]; apply ih
    have h2 : 2 ^ i < 2 ^ (i + 1) := Nat.pow_lt_pow_right (by decide) (by omega)
    split
    · exact Nat.or_lt_two_pow (by omega) h2
    · omega
theorem syn_lt (ds : List Nat) (x : Nat) : syn ds x < 2 ^ ds.length := by have := synF_lt ds x ds.length 0 0 (by decide); simpa [syn] using this
/-- The leaders of all syndromes. -/
def ldS (ds : List Nat) (x : Nat) (out : List Int) : List Int :=
  if (out[syn ds x]?.getD 0) < 0 ∨ wt x < wt (out[syn ds x]?.getD 0).toNat then out.set (syn ds x) x else out
def ldF (ds : List Nat) : Nat → Nat → List Int → List Int
  | 0, _, out => out
  | r + 1, x, out => ldF ds r (x + 1) (ldS ds x out)
def ld (n : Nat) (ds : List Nat) : List Int := ldF ds (2 ^ n) 0 (List.replicate (2 ^ ds.length) (-1))
theorem ldS_len (ds : List Nat) (x : Nat) (out : List Int) : (ldS ds x out).length = out.length := by unfold ldS; split <;> simp
theorem ldF_len (ds : List Nat) (r x : Nat) (out : List Int) : (ldF ds r x out).length = out.length := by
  induction r generalizing x out with
  | zero => rfl
  | succ r ih => rw [ldF, ih, ldS_len]
theorem ld_len (n : Nat) (ds : List Nat) : (ld n ds).length = 2 ^ ds.length := by rw [ld, ldF_len]; simp
/-- All leaders are words below M, or -1. -/
def Lds (M : Nat) (out : List Int) : Prop := ∀ z ∈ out, -1 ≤ z ∧ z < M
theorem ldS_bd {M : Nat} {ds : List Nat} {x : Nat} {out : List Int} (h : Lds M out) (hx : x < M) : Lds M (ldS ds x out) := by
  unfold ldS; split
  · intro z hz
    rcases List.mem_or_eq_of_mem_set hz with hz | rfl
    · exact h z hz
    · omega
  · exact h
theorem ldF_bd {M : Nat} {ds : List Nat} (r x : Nat) {out : List Int} (h : Lds M out) (hx : x + r ≤ M) : Lds M (ldF ds r x out) := by
  induction r generalizing x out with
  | zero => exact h
  | succ r ih => rw [ldF]; exact ih (x + 1) (ldS_bd h (by omega)) (by omega)
theorem ld_bd (n : Nat) (ds : List Nat) : Lds (2 ^ n) (ld n ds) := ldF_bd _ _ (fun z hz => by rw [List.eq_of_mem_replicate hz]; have := Nat.two_pow_pos n; omega) (by omega)
theorem ldS_keep {ds : List Nat} {x s : Nat} {out : List Int} (hs : s < out.length) (h : 0 ≤ out[s]?.getD 0) : 0 ≤ (ldS ds x out)[s]?.getD 0 := by
  unfold ldS; split
  · by_cases e : syn ds x = s
    · rw [e]; simp [hs]
    · rw [List.getElem?_set_ne e]; exact h
  · exact h
theorem ldS_own {ds : List Nat} {x : Nat} {out : List Int} (hs : syn ds x < out.length) : 0 ≤ (ldS ds x out)[syn ds x]?.getD 0 := by
  unfold ldS; split
  · simp [hs]
  · have : ¬ (out[syn ds x]?.getD 0 < 0) := fun h => by rename_i h'; exact h' (.inl h)
    omega
theorem ldF_keep {ds : List Nat} (r x : Nat) {s : Nat} {out : List Int} (hs : s < out.length) (h : 0 ≤ out[s]?.getD 0) : 0 ≤ (ldF ds r x out)[s]?.getD 0 := by
  induction r generalizing x out with
  | zero => exact h
  | succ r ih => rw [ldF]; exact ih (x + 1) (by rw [ldS_len]; exact hs) (ldS_keep hs h)
theorem ldF_own {ds : List Nat} (r x y : Nat) {out : List Int} (hl : out.length = 2 ^ ds.length) (h1 : x ≤ y) (h2 : y < x + r) : 0 ≤ (ldF ds r x out)[syn ds y]?.getD 0 := by
  induction r generalizing x out with
  | zero => omega
  | succ r ih =>
    rw [ldF]
    by_cases e : x = y
    · subst e
      exact ldF_keep r (x + 1) (by rw [ldS_len, hl]; exact syn_lt ds x) (ldS_own (by rw [hl]; exact syn_lt ds x))
    · exact ih (x + 1) (by rw [ldS_len]; exact hl) (by omega) (by omega)
/-- The leader of a word's syndrome is a word. -/
theorem ld_own {n : Nat} {ds : List Nat} {y : Nat} (hy : y < 2 ^ n) : 0 ≤ (ld n ds)[syn ds y]?.getD 0 := ldF_own _ _ y (by simp) (by omega) (by omega)
end Go.Proofs.Ytimcagcglgohjaa
