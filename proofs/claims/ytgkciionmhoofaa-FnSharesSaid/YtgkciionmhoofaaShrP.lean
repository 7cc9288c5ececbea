/- Shares of secrets: a polynomial over a prime is fixed by its values; values with few wrong ones are mended. Plain; conditions: what each theorem names. -/
import Derived.Test.YtgkciionmhoofaaMvQ
namespace Go.Proofs.Ytgkciionmhoofaa
set_option maxRecDepth 100000
set_option linter.unusedVariables false
set_option linter.unusedSimpArgs false
set_option linter.unusedSectionVars false

/-- Behind a division by (x - r). -/
def quo (p r : Int) : List Int → List Int
  | [] => []
  | [_] => []
  | _ :: d :: ds => valF p r (d :: ds) :: quo p r (d :: ds)
theorem quo_len (p r : Int) : ∀ cs : List Int, (quo p r cs).length = cs.length - 1
  | [] => rfl
  | [_] => rfl
  | _ :: d :: ds => by rw [quo, List.length_cons, quo_len p r (d :: ds)]; simp
theorem valF_quo (p x r : Int) : ∀ cs : List Int, valF p x cs = (valF p r cs + (x - r) * valF p x (quo p r cs)) % p
  | [] => by simp [valF, quo]
  | [c] => by simp [valF, quo]
  | c :: d :: ds => by
    have ih := valF_quo p x r (d :: ds)
    rw [quo, show valF p x (c :: d :: ds) = (valF p x (d :: ds) * x + c) % p from rfl, show valF p r (c :: d :: ds) = (valF p r (d :: ds) * r + c) % p from rfl, show valF p x (valF p r (d :: ds) :: quo p r (d :: ds)) = (valF p x (quo p r (d :: ds)) * x + valF p r (d :: ds)) % p from rfl, ih]
    generalize valF p r (d :: ds) = R
    generalize valF p x (quo p r (d :: ds)) = Q
    obtain ⟨q1, h1⟩ := emod_wit (R + (x - r) * Q) p
    obtain ⟨q2, h2⟩ := emod_wit (R * r + c) p
    obtain ⟨q3, h3⟩ := emod_wit (Q * x + R) p
    rw [h1, h2, h3]
    exact emod_of (-q1 * x + q2 + (x - r) * q3) (by grind)
theorem diff_ne {p a b : Int} (hp : 0 < p) (ha : 0 ≤ a ∧ a < p) (hb : 0 ≤ b ∧ b < p) (h : a ≠ b) : (a - b) % p ≠ 0 := by
  rcases Int.lt_or_gt_of_ne h with hl | hl
  · rw [← Int.add_emod_right, Int.emod_eq_of_lt (by omega) (by omega)]; omega
  · rw [Int.emod_eq_of_lt (by omega) (by omega)]; omega
theorem roots {p : Int} (hp : prm p = true) (xs : List Int) (hn : xs.Nodup) (hx : ∀ x ∈ xs, 0 ≤ x ∧ x < p) (cs : List Int) (hl : cs.length ≤ xs.length) (h0 : ∀ x ∈ xs, valF p x cs = 0) (x : Int) : valF p x cs = 0 := by
  have hb := prm_bd hp
  induction xs generalizing cs with
  | nil =>
    have h : cs = [] := by simpa using hl
    rw [h]; rfl
  | cons r xs ih =>
    rw [List.nodup_cons] at hn
    have hr := hx r (by simp)
    have hr0 := h0 r (by simp)
    have hq : ∀ y ∈ xs, valF p y (quo p r cs) = 0 := fun y hy => by
      have hyb := hx y (List.mem_cons_of_mem _ hy)
      have h1 := valF_quo p y r cs
      rw [h0 y (List.mem_cons_of_mem _ hy), hr0, Int.zero_add, Int.mul_comm] at h1
      have hv := valF_bd (show 0 < p by omega) y (quo p r cs)
      rcases Int.lt_or_le 0 (valF p y (quo p r cs)) with h2 | h2
      · exact absurd h1.symm (mul_ne hp h2 hv.2 (diff_ne (by omega) hyb hr (fun e => hn.1 (e ▸ hy))))
      · omega
    have h2 := ih hn.2 (fun y hy => hx y (List.mem_cons_of_mem _ hy)) (quo p r cs) (by rw [quo_len]; rw [List.length_cons] at hl; omega) hq
    rw [valF_quo p x r cs, hr0, h2]; simp
theorem valF_pad (p x : Int) (cs : List Int) (m : Nat) : valF p x (cs ++ List.replicate m 0) = valF p x cs := by
  induction cs with
  | nil => exact valF_rep0 p x m
  | cons c cs ih => rw [List.cons_append, valF, valF, ih]
theorem agree {p : Int} (hp : prm p = true) (xs : List Int) (hn : xs.Nodup) (hx : ∀ x ∈ xs, 0 ≤ x ∧ x < p) (xa xb : List Int) (ha : xa.length ≤ xs.length) (hb : xb.length ≤ xs.length) (h : ∀ x ∈ xs, valF p x xa = valF p x xb) (x : Int) : valF p x xa = valF p x xb := by
  have hpb := prm_bd hp
  have hl : (xa ++ List.replicate (xs.length - xa.length) 0).length = (xb ++ List.replicate (xs.length - xb.length) (0 : Int)).length := by simp; omega
  have hv : ∀ y, valF p y (addF p (-1) (xa ++ List.replicate (xs.length - xa.length) 0) (xb ++ List.replicate (xs.length - xb.length) 0)) = (valF p y xa - valF p y xb) % p := fun y => by
    rw [valF_addF y (-1) _ _ hl, valF_pad, valF_pad]; congr 1; omega
  have h0 := roots hp xs hn hx (addF p (-1) (xa ++ List.replicate (xs.length - xa.length) 0) (xb ++ List.replicate (xs.length - xb.length) 0)) (by rw [addF_len (p := p) (b := -1) hl]; simp; omega) (fun y hy => by rw [hv, h y hy, Int.sub_self]; simp) x
  rw [hv] at h0
  refine Classical.byContradiction fun hne => ?_
  exact diff_ne (show 0 < p by omega) (valF_bd (show 0 < p by omega) x xa) (valF_bd (show 0 < p by omega) x xb) hne h0
theorem Dst.nodup {ps : List Int} (h : Dst ps) : ps.Nodup := by
  rw [List.nodup_iff_pairwise_ne, List.pairwise_iff_getElem]
  exact fun i j hi hj hlt => h i j hi hj (by omega)
/-- As many values as terms fix it. -/
theorem thr_agree {p : Int} (hp : prm p = true) (ps ss f : List Int) (hps : ∀ z ∈ ps, 0 ≤ z ∧ z < p) (hd : Dst ps) (hl : ps.length = ss.length) (hf : f.length ≤ ps.length) (hv : ∀ i (h : i < ps.length), gI ss i = valF p ps[i] f) (x : Int) : thr p ps ss x = valF p x f := by
  have hpb := prm_bd hp
  have hss : ∀ z ∈ ss, 0 ≤ z ∧ z < p := fun z hz => by
    obtain ⟨i, hi, rfl⟩ := List.getElem_of_mem hz
    have h1 := hv i (by omega)
    rw [gI_eq hi] at h1
    rw [h1]; exact valF_bd (by omega) _ _
  rw [← valF_trm (by omega) x ps ss hss hl]
  refine agree hp ps hd.nodup hps _ _ (by rw [trm_len]; exact Nat.le_refl _) hf (fun y hy => ?_) x
  obtain ⟨i, hi, rfl⟩ := List.getElem_of_mem hy
  rw [valF_trm (by omega) _ ps ss hss hl, thr_at hp ps ss hps hss hl hd i hi]
  exact hv i hi

/- the places 1 .. c -/
def upto (c : Nat) : List Int := (List.range c).map fun i : Nat => ((i + 1 : Nat) : Int)
theorem upto_len (c : Nat) : (upto c).length = c := by simp [upto]
theorem upto_snoc (c : Nat) : upto c ++ [((c + 1 : Nat) : Int)] = upto (c + 1) := by unfold upto; rw [List.range_succ, List.map_append]; rfl
theorem upto_get (c i : Nat) (h : i < (upto c).length) : (upto c)[i] = ((i + 1 : Nat) : Int) := by simp [upto]
theorem upto_bd {c : Nat} {p : Int} (h : (c : Int) < p) : ∀ z ∈ upto c, 0 ≤ z ∧ z < p := by
  intro z hz
  obtain ⟨i, hi, rfl⟩ := List.mem_map.1 hz
  have := List.mem_range.1 hi; omega
theorem upto_dst (c : Nat) : Dst (upto c) := fun i j hi hj hne => by rw [upto_get, upto_get]; omega
theorem vals_get (p : Int) (ts : List Int) (x0 n i : Nat) (h : i < (vals p ts x0 n).length) : (vals p ts x0 n)[i] = valF p ((x0 + i : Nat) : Int) ts := by simp [vals]
theorem vals_gI (p : Int) (ts : List Int) (x0 n i : Nat) (h : i < n) : gI (vals p ts x0 n) i = valF p ((x0 + i : Nat) : Int) ts := by
  rw [gI_eq (by rw [vals_len]; exact h), vals_get]
theorem Dst.take {ps : List Int} (h : Dst ps) (n : Nat) : Dst (ps.take n) := fun i j hi hj hne => by
  rw [List.length_take] at hi hj
  rw [List.getElem_take, List.getElem_take]; exact h i j (by omega) (by omega) hne
theorem gI_take {zs : List Int} {n i : Nat} (h : i < n) : gI (zs.take n) i = gI zs i := by unfold gI; rw [List.getElem?_take, if_pos h]
theorem dstF_of {zs : List Int} (h : Dst zs) (r i : Nat) (hr : i + r = zs.length) : dstF zs r i = true := by
  induction r generalizing i with
  | zero => rfl
  | succ r ih =>
    rw [dstF, ih (i + 1) (by omega), Bool.and_true, Bool.not_eq_true']
    cases hm : memB (zs.take i) (gI zs i) with
    | false => rfl
    | true =>
      rw [memB_iff, gI_eq (by omega), List.mem_take_iff_getElem] at hm
      obtain ⟨k, hk, e⟩ := hm
      exact absurd e (h k i (by omega) (by omega) (by omega))
theorem nums_of {p : Int} (hp : prm p = true) {zs : List Int} {lo hi : Int} (h1 : lo ≤ zs.length) (h2 : (zs.length : Int) ≤ hi) (h : ∀ z ∈ zs, 0 ≤ z ∧ z < p) : nums p zs lo hi = true := by
  simp only [nums, hp, Bool.true_and, Bool.and_eq_true, decide_eq_true_eq]
  exact ⟨⟨h1, h2⟩, (allIn_iff _ _ _).2 fun z hz => by have := h z hz; omega⟩
theorem shOk_of {p : Int} (hp : prm p = true) {ps ss : List Int} (h1 : 1 ≤ ps.length) (h8 : ps.length ≤ 8) (hl : ps.length = ss.length) (hps : ∀ z ∈ ps, 1 ≤ z ∧ z < p) (hss : ∀ z ∈ ss, 0 ≤ z ∧ z < p) (hd : Dst ps) : shOk p ps ss = true := by
  have h0 : memB ps 0 = false := by
    cases hm : memB ps 0 with
    | false => rfl
    | true => have := hps 0 ((memB_iff _ _).1 hm); omega
  unfold shOk
  rw [nums_of hp (by omega) (by omega) (fun z hz => by have := hps z hz; omega), nums_of hp (by omega) (by omega) hss, h0, dstF_of hd _ _ (by omega)]
  simp [hl]
/-- Joined shares are the secret. -/
theorem join_back {p : Int} (hp : prm p = true) {ps ss f : List Int} {s : Int} (h1 : 1 ≤ ps.length) (h8 : ps.length ≤ 8) (hl : ps.length = ss.length) (hps : ∀ z ∈ ps, 1 ≤ z ∧ z < p) (hss : ∀ z ∈ ss, 0 ≤ z ∧ z < p) (hd : Dst ps) (hs : 0 ≤ s ∧ s < p) (hf : (s :: f).length ≤ ps.length) (hv : ∀ i (h : i < ps.length), gI ss i = valF p ps[i] (s :: f)) : shOk p ps ss = true ∧ jsV p ps ss = s := by
  have hok := shOk_of hp h1 h8 hl hps hss hd
  refine ⟨hok, ?_⟩
  rw [jsV, if_pos hok, thr_agree hp ps ss (s :: f) (fun z hz => by have := hps z hz; omega) hd hl hf hv 0, valF, Int.mul_zero, Int.zero_add, Int.emod_eq_of_lt hs.1 hs.2]
theorem fitF_all {p : Int} {ps ss : List Int} {n : Nat} (r i : Nat) (h : ∀ j, i ≤ j → j < i + r → thr p (ps.take n) (ss.take n) (gI ps j) = gI ss j) : fitF p ps ss n r i = true := by
  induction r generalizing i with
  | zero => rfl
  | succ r ih =>
    rw [fitF, h i (Nat.le_refl _) (by omega), ih (i + 1) (fun j h1 h2 => h j (by omega) (by omega))]; simp
/-- Shares that are the values of a polynomial fit. -/
theorem fits_yes {p : Int} (hp : prm p = true) {ps ss f : List Int} {need : Nat} (h1 : 1 ≤ need) (h8 : ps.length ≤ 8) (hn : need ≤ ps.length) (hl : ps.length = ss.length) (hps : ∀ z ∈ ps, 1 ≤ z ∧ z < p) (hss : ∀ z ∈ ss, 0 ≤ z ∧ z < p) (hd : Dst ps) (hf : f.length ≤ need) (hv : ∀ i (h : i < ps.length), gI ss i = valF p ps[i] f) : fsOk p need ps ss = true ∧ fsV p need ps ss = true := by
  have hok := shOk_of hp (by omega) h8 hl hps hss hd
  have hfs : fsOk p need ps ss = true := by
    rw [fsOk, hok, Bool.true_and]; simp only [inB, Bool.and_eq_true, decide_eq_true_eq]; omega
  refine ⟨hfs, ?_⟩
  have hN : fsN need ps = need := by unfold fsN; rw [Int.toNat_natCast]; omega
  rw [fsV, hfs, hN, Bool.true_and]
  refine fitF_all _ _ fun j hj1 hj2 => ?_
  rw [thr_agree hp (ps.take need) (ss.take need) f (fun z hz => by have := hps z (List.mem_of_mem_take hz); omega) (hd.take need) (by simp; omega) (by simp; omega) (fun i h => ?_) (gI ps j), gI_eq (show j < ps.length by omega)]
  · exact (hv j (by omega)).symm
  · rw [List.length_take] at h
    rw [gI_take (by omega), List.getElem_take]; exact hv i (by omega)
/-- One wrong share, and one too many: they do not fit. -/
theorem fits_no {p : Int} (hp : prm p = true) {ps ss f : List Int} {need : Nat} (h1 : 1 ≤ need) (h8 : ps.length ≤ 8) (hn : need < ps.length) (hl : ps.length = ss.length) (hps : ∀ z ∈ ps, 1 ≤ z ∧ z < p) (hss : ∀ z ∈ ss, 0 ≤ z ∧ z < p) (hd : Dst ps) (hf : f.length ≤ need) (hv : ∀ i (h : i < ps.length), 1 ≤ i → gI ss i = valF p ps[i] f) (hne : gI ss 0 ≠ valF p (ps[0]'(by omega)) f) : fsOk p need ps ss = true ∧ fsV p need ps ss = false := by
  have hpb := prm_bd hp
  have hok := shOk_of hp (by omega) h8 hl hps hss hd
  have hfs : fsOk p need ps ss = true := by
    rw [fsOk, hok, Bool.true_and]; simp only [inB, Bool.and_eq_true, decide_eq_true_eq]; omega
  refine ⟨hfs, ?_⟩
  have hN : fsN need ps = need := by unfold fsN; rw [Int.toNat_natCast]; omega
  rw [fsV, hfs, hN, Bool.true_and, show ps.length - need = (ps.length - need - 1) + 1 by omega, fitF]
  have hkey : ¬ thr p (ps.take need) (ss.take need) (gI ps need) = gI ss need := by
    intro he
    have hps0 : ∀ z ∈ ps.take need, 0 ≤ z ∧ z < p := fun z hz => by have := hps z (List.mem_of_mem_take hz); omega
    have hss0 : ∀ z ∈ ss.take need, 0 ≤ z ∧ z < p := fun z hz => hss z (List.mem_of_mem_take hz)
    have hll : (ps.take need).length = (ss.take need).length := by simp; omega
    have hT : ∀ x, valF p x (trm p (ps.take need) (ss.take need)) = thr p (ps.take need) (ss.take need) x := fun x => valF_trm (by omega) x _ _ hss0 hll
    have hat : ∀ i (h : i < need), valF p (ps[i]'(by omega)) (trm p (ps.take need) (ss.take need)) = gI ss i := fun i h => by
      have h2 := thr_at hp (ps.take need) (ss.take need) hps0 hss0 hll (hd.take need) i (by simp; omega)
      rw [List.getElem_take, gI_take h] at h2
      rw [hT, h2]
    have hag := agree hp ((ps.drop 1).take need) (((hd.nodup).sublist (List.drop_sublist _ _)).sublist (List.take_sublist _ _)) (fun x hx => by
        have := hps x (List.mem_of_mem_drop (List.mem_of_mem_take hx)); omega) (trm p (ps.take need) (ss.take need)) f (by rw [trm_len]; simp; omega) (by simp; omega) (fun x hx => by
        obtain ⟨i, hi, rfl⟩ := List.getElem_of_mem hx
        rw [List.length_take, List.length_drop] at hi
        rw [List.getElem_take, List.getElem_drop]
        by_cases hin : 1 + i < need
        · rw [hat (1 + i) hin]; exact hv (1 + i) (by omega) (by omega)
        · have hie : 1 + i = need := by omega
          have h3 : ps[1 + i]'(by omega) = gI ps need := by rw [gI_eq hn]; congr 1
          rw [hT, h3, he]
          have h4 := hv need hn (by omega)
          rw [h4, gI_eq hn])
    have h5 := hat 0 (by omega)
    rw [hag] at h5
    exact hne h5.symm
  have : (thr p (ps.take need) (ss.take need) (gI ps need) == gI ss need) = false := by simpa using hkey
  rw [this]; rfl

/- mending -/
theorem filt_both {α : Type} (A B : α → Bool) (l : List α) : (l.filter A).length + (l.filter B).length ≤ l.length + (l.filter fun x => A x && B x).length := by
  induction l with
  | nil => simp
  | cons x l ih =>
    simp only [List.filter_cons, List.length_cons]
    cases A x <;> cases B x <;> simp <;> omega
/-- Terms of which there are at most two are fixed by what they tell. -/
theorem terms_eq {p : Int} (hp : prm p = true) {xa xb : List Int} (ha : ∀ z ∈ xa, 0 ≤ z ∧ z < p) (hb : ∀ z ∈ xb, 0 ≤ z ∧ z < p) (hl : xa.length = xb.length) (h2 : xa.length ≤ 2) (h : ∀ x, valF p x xa = valF p x xb) : xa = xb := by
  have hpb := prm_bd hp
  match xa, xb, hl, h2 with
  | [], [], _, _ => rfl
  | [a], [b], _, _ =>
    have := h 0
    simp only [valF, Int.zero_mul, Int.zero_add] at this
    have h1 := ha a (by simp); have h3 := hb b (by simp)
    rw [Int.emod_eq_of_lt h1.1 h1.2, Int.emod_eq_of_lt h3.1 h3.2] at this
    rw [this]
  | [a, a'], [b, b'], _, _ =>
    have e0 := h 0
    have e1 := h 1
    have h1 := ha a (by simp); have h3 := hb b (by simp)
    have h4 := ha a' (by simp); have h5 := hb b' (by simp)
    simp only [valF, Int.zero_mul, Int.zero_add, Int.mul_zero, Int.mul_one] at e0 e1
    rw [Int.emod_eq_of_lt h1.1 h1.2, Int.emod_eq_of_lt h3.1 h3.2] at e0
    rw [Int.emod_eq_of_lt h4.1 h4.2, Int.emod_eq_of_lt h5.1 h5.2, e0] at e1
    have : a' = b' := by
      refine Classical.byContradiction fun hne => ?_
      have hd := diff_ne (show 0 < p by omega) h4 h5 hne
      obtain ⟨q1, r1⟩ := emod_wit (a' + b) p
      obtain ⟨q2, r2⟩ := emod_wit (b' + b) p
      apply hd
      rw [show a' - b' = p * (q1 - q2) by rw [r1, r2] at e1; rw [Int.mul_sub]; omega, Int.mul_emod_right]
    rw [e0, this]
theorem pk_wt6 : ∀ set, set < 64 → (pkN set 6).length = wt set := by decide +kernel
theorem pk_wt8 : ∀ set, set < 256 → (pkN set 8).length = wt set := by decide +kernel
theorem pk_wt {n set : Nat} (hn : n = 6 ∨ n = 8) (hs : set < 2 ^ n) : (pkN set n).length = wt set := by
  rcases hn with rfl | rfl
  · exact pk_wt6 set (by simpa using hs)
  · exact pk_wt8 set (by simpa using hs)
theorem set1 : ∀ j, j < 8 → wt (2 ^ j) = 1 ∧ ∀ x, x < 8 → hasD (2 ^ j) x = true → x = j := by decide +kernel
theorem set2b : ((List.range 8).all fun i => (List.range 8).all fun j => (i == j) || (wt (2 ^ i + 2 ^ j) == 2 && (List.range 8).all fun x => !hasD (2 ^ i + 2 ^ j) x || (x == i || x == j))) = true := by decide +kernel
theorem set2 (i : Nat) (hi : i < 8) (j : Nat) (hj : j < 8) (hne : i ≠ j) : wt (2 ^ i + 2 ^ j) = 2 ∧ ∀ x, x < 8 → hasD (2 ^ i + 2 ^ j) x = true → x = i ∨ x = j := by
  have h := List.all_eq_true.1 (List.all_eq_true.1 set2b i (List.mem_range.2 hi)) j (List.mem_range.2 hj)
  simp only [Bool.or_eq_true, Bool.and_eq_true, beq_iff_eq] at h
  rcases h with h | ⟨h1, h2⟩
  · exact absurd h hne
  · refine ⟨h1, fun x hx hd => ?_⟩
    have h3 := List.all_eq_true.1 h2 x (List.mem_range.2 hx)
    rw [hd] at h3
    simpa using h3
theorem nodup_nat {l : List Nat} (h : l.Nodup) : (l.map fun x : Nat => (x : Int)).Nodup := by
  rw [List.nodup_iff_pairwise_ne] at *
  rw [List.pairwise_map]
  exact h.imp (fun hne e => hne (by omega))
section
variable {p : Int} (hp : prm p = true) {msg W : List Int} {n K : Nat} (hn : n = 6 ∨ n = 8) (hnp : (n : Int) < p) (hK : K = 1 ∨ K = 2) (hml : msg.length = K) (hmb : ∀ z ∈ msg, 0 ≤ z ∧ z < p) (hWl : W.length = n) (hWb : ∀ z ∈ W, 0 ≤ z ∧ z < p)
include hp hn hnp hK hml hmb hWl hWb
/-- Terms from so many places that miss few are the message. -/
theorem near {set : Nat} (hs : set < 2 ^ n) (hw : wt set = K) (h : mis p (trs p W n set) W n + mis p msg W n + K ≤ n) : trs p W n set = msg := by
  have hpb := prm_bd hp
  have hlen : (trs p W n set).length = K := by unfold trs; rw [trm_len, pkP_len, pk_wt hn hs, hw]
  have hb1 := filt_both (fun x : Nat => valF p (x : Int) (trs p W n set) == gI W x) (fun x : Nat => valF p (x : Int) msg == gI W x) (List.range n)
  have m1 := mis_hit p (trs p W n set) W n
  have m2 := mis_hit p msg W n
  unfold hit at m1 m2
  rw [List.length_range] at hb1
  refine terms_eq hp (trm_bd (by omega) _ _) hmb (by rw [hlen, hml]) (by rw [hlen]; omega) fun x => ?_
  refine agree hp (((List.range n).filter fun x : Nat => (valF p (x : Int) (trs p W n set) == gI W x) && (valF p (x : Int) msg == gI W x)).map fun x : Nat => (x : Int)) (nodup_nat (List.nodup_range.filter _)) (fun y hy => ?_) _ _ (by rw [hlen, List.length_map]; omega) (by rw [hml, List.length_map]; omega) (fun y hy => ?_) x
  · obtain ⟨i, hi, rfl⟩ := List.mem_map.1 hy
    have := List.mem_range.1 (List.mem_filter.1 hi).1; omega
  · obtain ⟨i, hi, rfl⟩ := List.mem_map.1 hy
    have h2 := (List.mem_filter.1 hi).2
    simp only [Bool.and_eq_true, beq_iff_eq] at h2
    rw [h2.1, h2.2]
/-- Places that are all right lead to the message. -/
theorem good {set : Nat} (hs : set < 2 ^ n) (hw : wt set = K) (hg : ∀ x, x < n → hasD set x = true → gI W x = valF p (x : Int) msg) : trs p W n set = msg := by
  have hpb := prm_bd hp
  have hlen : (trs p W n set).length = K := by unfold trs; rw [trm_len, pkP_len, pk_wt hn hs, hw]
  refine terms_eq hp (trm_bd (by omega) _ _) hmb (by rw [hlen, hml]) (by rw [hlen]; omega) fun x => ?_
  refine agree hp (pkP set n) (pkP_dst set n).nodup (pkP_bd (by omega)) _ _ (by rw [hlen, pkP_len, pk_wt hn hs, hw]; exact Nat.le_refl _) (by rw [hml, pkP_len, pk_wt hn hs, hw]; exact Nat.le_refl _) (fun y hy => ?_) x
  obtain ⟨j, hj, rfl⟩ := List.mem_map.1 hy
  obtain ⟨h1, h2⟩ := pkN_mem hj
  rw [trs_at hp hWb hnp set j h1 h2]; exact hg j h1 h2
theorem good_ex (h : 2 * mis p msg W n + K ≤ n) : ∃ set, set < 2 ^ n ∧ wt set = K ∧ trs p W n set = msg := by
  have m2 := mis_hit p msg W n
  unfold hit at m2
  have hn8 : n ≤ 8 := by omega
  have hpw : ∀ j, j < n → 2 ^ j < 2 ^ n := fun j hj => Nat.pow_lt_pow_right (by decide) hj
  generalize hL : (List.range n).filter (fun x : Nat => valF p (x : Int) msg == gI W x) = L at m2
  have hmem : ∀ x ∈ L, x < n ∧ gI W x = valF p (x : Int) msg := fun x hx => by
    rw [← hL, List.mem_filter, List.mem_range] at hx
    exact ⟨hx.1, by have h3 := hx.2; simp only [beq_iff_eq] at h3; exact h3.symm⟩
  have hnd : L.Nodup := by rw [← hL]; exact List.nodup_range.filter _
  rcases hK with rfl | rfl
  · match L, m2, hmem with
    | [], m2, _ => simp at m2; omega
    | i :: L', _, hmem =>
      obtain ⟨hi, hgi⟩ := hmem i (by simp)
      obtain ⟨s1, s2⟩ := set1 i (by omega)
      exact ⟨2 ^ i, hpw i hi, s1, good hp hn hnp (.inl rfl) hml hmb hWl hWb (hpw i hi) s1 fun x hx hd => by rw [s2 x (by omega) hd]; exact hgi⟩
  · match L, m2, hmem, hnd with
    | [], m2, _, _ => simp at m2; omega
    | [_], m2, _, _ => simp at m2; omega
    | i :: j :: L', _, hmem, hnd =>
      obtain ⟨hi, hgi⟩ := hmem i (by simp)
      obtain ⟨hj, hgj⟩ := hmem j (by simp)
      have hne : i ≠ j := by intro e; subst e; simp at hnd
      obtain ⟨s1, s2⟩ := set2 i (by omega) j (by omega) hne
      have hlt : 2 ^ i + 2 ^ j < 2 ^ n := by
        rcases Nat.lt_or_gt_of_ne hne with h1 | h1
        · have h2 : 2 ^ (i + 1) ≤ 2 ^ j := Nat.pow_le_pow_right (by decide) h1
          have h3 : 2 ^ (j + 1) ≤ 2 ^ n := Nat.pow_le_pow_right (by decide) hj
          have := Nat.two_pow_pos i
          rw [Nat.pow_succ] at h2 h3; omega
        · have h2 : 2 ^ (j + 1) ≤ 2 ^ i := Nat.pow_le_pow_right (by decide) h1
          have h3 : 2 ^ (i + 1) ≤ 2 ^ n := Nat.pow_le_pow_right (by decide) hi
          have := Nat.two_pow_pos j
          rw [Nat.pow_succ] at h2 h3; omega
      exact ⟨2 ^ i + 2 ^ j, hlt, s1, good hp hn hnp (.inr rfl) hml hmb hWl hWb hlt s1 fun x hx hd => by rcases s2 x (by omega) hd with rfl | rfl <;> assumption⟩
theorem mend_inv (h : 2 * mis p msg W n + K ≤ n) (N : Nat) (hN : N ≤ 2 ^ n) : mis p msg W n < (mvF p K W n N).least ∨ mvF p K W n N = ⟨msg, mis p msg W n, false⟩ := by
  induction N with
  | zero =>
    left
    have := mis_hit p msg W n
    show mis p msg W n < n + 1; omega
  | succ N ih =>
    have ih := ih (by omega)
    rw [mvF_snoc]
    by_cases hw : wt N = K
    · by_cases hm : mis p (trs p W n N) W n ≤ mis p msg W n
      · have he := near hp hn hnp hK hml hmb hWl hWb (show N < 2 ^ n by omega) hw (by omega)
        right
        rw [mvStep, if_pos hw, he]
        rcases ih with h1 | h1
        · rw [if_pos h1]
        · rw [h1, if_neg (by show ¬ mis p msg W n < mis p msg W n; omega), if_neg (fun hh => hh.2 rfl)]
      · rw [mvStep, if_pos hw]
        rcases ih with h1 | h1
        · left
          split
          · show mis p msg W n < mis p (trs p W n N) W n; omega
          · split
            · exact h1
            · exact h1
        · right
          rw [h1, if_neg (by show ¬ mis p (trs p W n N) W n < mis p msg W n; omega), if_neg (fun hh => by have h2 : mis p (trs p W n N) W n = mis p msg W n := hh.1; omega)]
    · rw [mvStep_no hw]; exact ih
theorem mended (h : 2 * mis p msg W n + K ≤ n) : mvOk p K W = true ∧ mvM p K W = (mis p msg W n : Int) ∧ mvZ p K W = msg := by
  obtain ⟨set, hs, hw, he⟩ := good_ex hp hn hnp hK hml hmb hWl hWb h
  have hle : (mvF p K W n (2 ^ n)).least ≤ mis p msg W n := by
    have key : ∀ N, set < N → (mvF p K W n N).least ≤ mis p msg W n := by
      intro N
      induction N with
      | zero => intro h; omega
      | succ N ih =>
        intro hlt
        rw [mvF_snoc]
        by_cases hsN : set < N
        · exact Nat.le_trans (mvStep_least _ _ _ _ _ _) (ih hsN)
        · obtain rfl : set = N := by omega
          rw [mvStep, if_pos hw, he]
          by_cases h1 : mis p msg W n < (mvF p K W n set).least
          · rw [if_pos h1]; exact Nat.le_refl _
          · rw [if_neg h1]
            by_cases h2 : mis p msg W n = (mvF p K W n set).least ∧ msg ≠ (mvF p K W n set).best
            · rw [if_pos h2]; show (mvF p K W n set).least ≤ _; omega
            · rw [if_neg h2]; omega
    exact key _ hs
  have hF : mvF p K W n (2 ^ n) = ⟨msg, mis p msg W n, false⟩ := by
    rcases mend_inv hp hn hnp hK hml hmb hWl hWb h (2 ^ n) (Nat.le_refl _) with h1 | h1
    · omega
    · exact h1
  have hR : mvR p (K : Int) W = ⟨msg, mis p msg W n, false⟩ := by rw [mvR, Int.toNat_natCast, hWl, hF]
  have h0 : mvOk0 p (K : Int) W = true := by
    rw [mvOk0, nums_of hp (by omega) (by omega) hWb]
    simp only [inB, Bool.true_and, Bool.and_eq_true, decide_eq_true_eq]
    omega
  have hok : mvOk p (K : Int) W = true := by rw [mvOk, h0, hR]; rfl
  exact ⟨hok, by rw [mvM, if_pos hok, hR], by rw [mvZ, if_pos hok, hR]⟩
end
/-- One wrong value more. -/
theorem mis_set {p : Int} {msg W : List Int} {n x : Nat} {y : Int} (hx : x < n) (hW : n ≤ W.length) (h1 : gI W x = valF p (x : Int) msg) (h2 : y ≠ valF p (x : Int) msg) : mis p msg (W.set x y) n = mis p msg W n + 1 := by
  have hg : ∀ i, i < W.length → gI (W.set x y) i = if i = x then y else gI W i := fun i hi => by
    unfold gI; rw [List.getElem?_set]
    by_cases e : x = i
    · subst e; simp [hi]
    · rw [if_neg e, if_neg (fun h => e h.symm)]
  have key : ∀ m, m ≤ W.length → mis p msg (W.set x y) m = mis p msg W m + if x < m then 1 else 0 := by
    intro m
    induction m with
    | zero => intro _; simp [mis]
    | succ m ih =>
      intro hm
      rw [mis_snoc, mis_snoc, ih (by omega), hg m (by omega)]
      by_cases e : m = x
      · subst e
        have e1 : (valF p (m : Int) msg == y) = false := by simpa using fun h => h2 h.symm
        have e2 : (valF p (m : Int) msg == gI W m) = true := by simp [h1]
        rw [if_pos rfl, e1, e2]; simp
      · rw [if_neg e]
        generalize (if (valF p (m : Int) msg == gI W m) = true then 0 else 1) = z
        by_cases hlt : x < m
        · rw [if_pos hlt, if_pos (by omega)]; omega
        · rw [if_neg hlt, if_neg (by omega)]; omega
  rw [key n hW, if_pos hx]
theorem rot_ne : ∀ c, c ≤ 8 → ∀ a, a < c → ∀ i, i < c → ∀ j, j < c → (a + i) % c = (a + j) % c → i = j := by decide +kernel
theorem flip_ne {p v r : Int} (hp : 1 < p) (hv : 0 ≤ v ∧ v < p) (hr : 0 ≤ r ∧ r < p - 1) : (v + 1 + r) % p ≠ v := by
  intro h
  rcases Int.lt_or_le (v + 1 + r) p with hl | hl
  · rw [Int.emod_eq_of_lt (by omega) hl] at h; omega
  · rw [← Int.emod_emod_of_dvd (v + 1 + r) (Int.dvd_refl p), show v + 1 + r = (v + 1 + r - p) + p by omega, Int.add_emod_right, Int.emod_emod_of_dvd _ (Int.dvd_refl p), Int.emod_eq_of_lt (by omega) (by omega)] at h; omega
def rotP (C a i : Nat) : List Int := (List.range i).map fun j => (((j + a) % C + 1 : Nat) : Int)
def rotV (sh : List Int) (C a i : Nat) : List Int := (List.range i).map fun j => gI sh ((j + a) % C)
theorem rotP_len (C a i : Nat) : (rotP C a i).length = i := by simp [rotP]
theorem rotV_len (sh : List Int) (C a i : Nat) : (rotV sh C a i).length = i := by simp [rotV]
theorem rotP_snoc (C a i : Nat) : rotP C a (i + 1) = rotP C a i ++ [(((i + a) % C + 1 : Nat) : Int)] := by unfold rotP; rw [List.range_succ, List.map_append]; rfl
theorem rotV_snoc (sh : List Int) (C a i : Nat) : rotV sh C a (i + 1) = rotV sh C a i ++ [gI sh ((i + a) % C)] := by unfold rotV; rw [List.range_succ, List.map_append]; rfl
theorem rotP_get (C a n i : Nat) (h : i < (rotP C a n).length) : (rotP C a n)[i] = (((i + a) % C + 1 : Nat) : Int) := by simp [rotP]
theorem rotV_gI (sh : List Int) (C a n i : Nat) (h : i < n) : gI (rotV sh C a n) i = gI sh ((i + a) % C) := by
  rw [gI_eq (by rw [rotV_len]; exact h)]; simp [rotV]
theorem rotP_bd {C a n : Nat} {p : Int} (hC : 0 < C) (h : (C : Int) < p) : ∀ z ∈ rotP C a n, 1 ≤ z ∧ z < p := by
  intro z hz
  obtain ⟨i, _, rfl⟩ := List.mem_map.1 hz
  have := Nat.mod_lt (i + a) hC; omega
theorem rotP_dst {C a n : Nat} (hC : C ≤ 8) (ha : a < C) (hn : n ≤ C) : Dst (rotP C a n) := fun i j hi hj hne => by
  rw [rotP_get, rotP_get]
  rw [rotP_len] at hi hj
  intro e
  exact hne (rot_ne C hC a ha i (by omega) j (by omega) (by rw [Nat.add_comm a i, Nat.add_comm a j]; omega))
theorem rotV_bd {sh : List Int} {C a n : Nat} {p : Int} (hp : 0 < p) (h : ∀ z ∈ sh, 0 ≤ z ∧ z < p) : ∀ z ∈ rotV sh C a n, 0 ≤ z ∧ z < p := by
  intro z hz
  obtain ⟨i, _, rfl⟩ := List.mem_map.1 hz
  exact gI_bd hp h _
theorem mis_zero {p : Int} {msg W : List Int} (n : Nat) (h : ∀ x, x < n → gI W x = valF p (x : Int) msg) : mis p msg W n = 0 := by
  induction n with
  | zero => rfl
  | succ n ih =>
    rw [mis_snoc, ih (fun x hx => h x (by omega)), h n (by omega)]; simp
theorem nn_of {p : Int} (h : prm p = true) : ∃ nn : Nat, (nn = 6 ∨ nn = 8) ∧ (if (8 : Int) < p - 1 then (8 : Int) else p - 1) = (nn : Int) ∧ (nn : Int) < p := by
  rcases prm_cases h with rfl | rfl | rfl | rfl | rfl | rfl | rfl
  · exact ⟨6, .inl rfl, by decide, by decide⟩
  all_goals exact ⟨8, .inr rfl, by decide, by decide⟩
theorem valF_0 {p : Int} {msg : List Int} (h : ∀ z ∈ msg, 0 ≤ z ∧ z < p) (h1 : 0 < msg.length) : valF p ((0 : Nat) : Int) msg = msg[0] := by
  cases msg with
  | nil => simp at h1
  | cons m ms =>
    have hm := h m (by simp)
    rw [valF]; simp
    exact Int.emod_eq_of_lt hm.1 hm.2
theorem gI_set {W : List Int} {x i : Nat} {y : Int} (hx : x < W.length) : gI (W.set x y) i = if i = x then y else gI W i := by
  unfold gI; rw [List.getElem?_set]
  by_cases e : x = i
  · subst e; simp [hx]
  · rw [if_neg e, if_neg (fun h => e h.symm)]
end Go.Proofs.Ytgkciionmhoofaa
