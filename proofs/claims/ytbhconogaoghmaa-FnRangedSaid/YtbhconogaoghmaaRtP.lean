/- Texts come back from their bits: the range coder's round trip. Plain; conditions: counts of at least 1, at most 16384 in all. -/
import Derived.Test.YtbhconogaoghmaaRngP
namespace Go.Proofs.Ytbhconogaoghmaa
open Go.RowKit
set_option maxRecDepth 100000
set_option linter.unusedVariables false
set_option linter.unusedSimpArgs false

theorem codF_app (bs : List Bool) (a b i : Nat) (c : Int) : codF bs (a + b) i c = codF bs b (i + a) (codF bs a i c) := by
  induction a generalizing i c with
  | zero => rw [Nat.zero_add]; rfl
  | succ a ih => rw [show a + 1 + b = (a + b) + 1 by omega, codF, ih, codF, show i + 1 + a = i + (a + 1) by omega]
theorem codF_snoc (bs : List Bool) (a i : Nat) (c : Int) : codF bs (a + 1) i c = 2 * codF bs a i c + bitI bs (i + a) := by rw [codF_app]; rfl
theorem codF_split (bs : List Bool) (a i : Nat) (c : Int) : codF bs a i c = c * 2 ^ a + codF bs a i 0 := by
  induction a with
  | zero => simp [codF]
  | succ a ih => rw [codF_snoc, codF_snoc, ih, Int.pow_succ]; grind
/-- The number that the decoder holds where so many bits have been told and so many wait. -/
def cd (B : List Bool) (m w : Nat) : Int := codF B (16 + w) m 0 - 32768 * (2 ^ w - 1)
theorem cd_wait (B : List Bool) (m w : Nat) : cd B m (w + 1) = 2 * (cd B m w - 16384) + bitI B (16 + m + w) := by
  unfold cd
  rw [show 16 + (w + 1) = (16 + w) + 1 by omega, codF_snoc, show m + (16 + w) = 16 + m + w by omega, Int.pow_succ]
  grind
theorem cd_zero (B : List Bool) (m : Nat) : cd B m 0 = codF B 16 m 0 := by unfold cd; simp
theorem tell_cod (B : List Bool) (m w : Nat) (b : Bool) (h0 : B[m]?.getD false = b) (h : ∀ j, j < w → B[m + 1 + j]?.getD false = !b) : codF B (1 + w) m 0 = 2 ^ w - (if b then 0 else 1) := by
  induction w with
  | zero =>
    show 2 * 0 + bitI B m = _
    unfold bitI
    rw [h0]; cases b <;> simp
  | succ w ih =>
    have ih := ih fun j hj => h j (by omega)
    rw [show 1 + (w + 1) = (1 + w) + 1 by omega, codF_snoc, ih, show m + (1 + w) = m + 1 + w by omega]
    have := h w (by omega)
    unfold bitI
    rw [this, Int.pow_succ]
    cases b <;> simp <;> omega
theorem pre_get {P B : List Bool} (h : P <+: B) {i : Nat} (hi : i < P.length) : B[i]?.getD false = P[i]?.getD false := by
  obtain ⟨T, rfl⟩ := h
  rw [List.getElem?_append_left hi]
theorem tell_get (A : List Bool) (b : Bool) (w : Nat) {B : List Bool} (h : A ++ tellB b w <+: B) : B[A.length]?.getD false = b ∧ ∀ j, j < w → B[A.length + 1 + j]?.getD false = !b := by
  refine ⟨?_, fun j hj => ?_⟩
  · rw [pre_get h (by simp [tellB]), List.getElem?_append_right (Nat.le_refl _)]
    simp [tellB]
  · rw [pre_get h (by simp [tellB]; omega), List.getElem?_append_right (by omega), show A.length + 1 + j - A.length = j + 1 by omega]
    simp [tellB, hj]
theorem cd_tell {A B : List Bool} {b : Bool} {w : Nat} (h : A ++ tellB b w <+: B) : cd B A.length w = (if b then 32768 else 0) + codF B 15 (A.length + 1 + w) 0 ∧ cd B (A.length + 1 + w) 0 = 2 * codF B 15 (A.length + 1 + w) 0 + bitI B (16 + A.length + w) := by
  obtain ⟨h1, h2⟩ := tell_get A b w h
  have h3 := tell_cod B A.length w b h1 h2
  constructor
  · unfold cd
    rw [show 16 + w = (1 + w) + 15 by omega, codF_app, h3, codF_split, show A.length + (1 + w) = A.length + 1 + w by omega]
    generalize (2 : Int) ^ w = q
    cases b <;> simp <;> omega
  · rw [cd_zero, show 16 = 15 + 1 from rfl, codF_snoc, show A.length + 1 + w + 15 = 15 + 1 + A.length + w by omega]
theorem wid_pre (f : Nat) (r : Rs) : r.bits <+: (wid f r).bits := by
  induction f generalizing r with
  | zero => exact List.prefix_refl _
  | succ f ih =>
    rw [wid]
    cases hh : halv r.low r.high with
    | none => exact List.prefix_refl _
    | some b =>
      refine List.IsPrefix.trans ?_ (ih _)
      show r.bits <+: if b = 16384 then r.bits else r.bits ++ tellB (decide (b = 32768)) r.wait
      split
      · exact List.prefix_refl _
      · exact List.prefix_append _ _
theorem wid_halv (f : Nat) (r : Rs) (hf : Fuel f r.low r.high) (h0 : 0 ≤ r.low) (h1 : r.low ≤ r.high) (h2 : r.high ≤ 65535) : halv (wid f r).low (wid f r).high = none := by
  induction f generalizing r with
  | zero => obtain ⟨g, hg⟩ := hf.pos h0 h2; omega
  | succ f ih =>
    rw [wid]
    cases hh : halv r.low r.high with
    | none => exact hh
    | some b =>
      have hb := halv_some hh h0 h1 h2
      exact ih _ hf.next (by simp; omega) (by simp; omega) (by simp; omega)
theorem halv_vals {low high b : Int} (h : halv low high = some b) : b = 0 ∨ b = 32768 ∨ b = 16384 := by
  unfold halv at h
  split at h
  · have := Option.some.inj h; omega
  · split at h
    · have := Option.some.inj h; omega
    · split at h
      · have := Option.some.inj h; omega
      · cases h
/-- What the decoder holds lies in the range. -/
def Inv (B : List Bool) (r : Rs) : Prop := r.low ≤ cd B r.bits.length r.wait ∧ cd B r.bits.length r.wait ≤ r.high
theorem tell_len (b : Bool) (w : Nat) : (tellB b w).length = w + 1 := by simp [tellB]
theorem wid_back (f : Nat) (r : Rs) (B : List Bool) (h : (wid f r).bits <+: B) (hi : Inv B (wid f r)) : Inv B r := by
  induction f generalizing r with
  | zero => exact hi
  | succ f ih =>
    rw [wid] at h hi
    cases hh : halv r.low r.high with
    | none => rw [hh] at hi; exact hi
    | some b =>
      rw [hh] at h hi
      have hp := (wid_pre f _).trans h
      have hI := ih _ h hi
      have hbt := bitI_bd B (16 + r.bits.length + r.wait)
      unfold Inv at hI ⊢
      dsimp only at hp hI
      by_cases hb : b = 16384
      · rw [if_pos hb, if_pos hb, cd_wait] at hI
        omega
      · rw [if_neg hb, if_neg hb] at hI
        rw [if_neg hb] at hp
        obtain ⟨c1, c2⟩ := cd_tell hp
        rw [List.length_append, tell_len, show r.bits.length + (r.wait + 1) = r.bits.length + 1 + r.wait by omega, c2] at hI
        rw [c1]
        have := halv_vals hh
        by_cases h3 : b = 32768
        · rw [if_pos (by simpa using h3)]; omega
        · rw [if_neg (by simpa using h3)]; omega
theorem wid_front (f : Nat) (r : Rs) (B : List Bool) (h : (wid f r).bits <+: B) :
    widT B f ⟨r.low, r.high, cd B r.bits.length r.wait, 16 + r.bits.length + r.wait⟩ = ⟨(wid f r).low, (wid f r).high, cd B (wid f r).bits.length (wid f r).wait, 16 + (wid f r).bits.length + (wid f r).wait⟩ := by
  induction f generalizing r with
  | zero => rfl
  | succ f ih =>
    rw [wid] at h ⊢
    rw [widT]
    dsimp only
    cases hh : halv r.low r.high with
    | none => rfl
    | some b =>
      rw [hh] at h
      have hp := (wid_pre f _).trans h
      have hI := ih _ h
      dsimp only at hp hI ⊢
      rw [← hI]
      congr 2
      · by_cases hb : b = 16384
        · rw [if_pos hb, if_pos hb, cd_wait, hb]
        · rw [if_neg hb] at hp
          rw [if_neg hb, if_neg hb]
          obtain ⟨c1, c2⟩ := cd_tell hp
          rw [List.length_append, tell_len, show r.bits.length + (r.wait + 1) = r.bits.length + 1 + r.wait by omega, c2, c1]
          have := halv_vals hh
          by_cases h3 : b = 32768
          · rw [if_pos (by simpa using h3)]; omega
          · rw [if_neg (by simpa using h3)]; omega
      · by_cases hb : b = 16384
        · rw [if_pos hb, if_pos hb]; omega
        · rw [if_neg hb, if_neg hb, List.length_append, tell_len]; omega
/-- What a state between two letters is. -/
structure Mid (r : Rs) (cs : List Int) : Prop where
  l0 : 0 ≤ r.low
  lh : r.low ≤ r.high
  h1 : r.high ≤ 65535
  n : halv r.low r.high = none
theorem Mid.next {r : Rs} {cs : List Int} (h : Mid r cs) (hp : Pos cs) (hs : sumL cs ≤ 16384) {l : Nat} (hl : l < cs.length) (cs' : List Int) : Mid (wid 17 ⟨nLow cs l r.low r.high, nHigh cs l r.low r.high, r.wait, r.bits⟩) cs' := by
  have hw := halv_none h.n
  have hn := narrow_bd hp hl h.l0 h.h1 (by omega)
  have h0 := h.l0
  have h1 := h.h1
  have := wid_out 17 ⟨nLow cs l r.low r.high, nHigh cs l r.low r.high, r.wait, r.bits⟩ (fuel17 hn.2.1) (by simp; omega) hn.2.1 (by simp; omega)
  exact ⟨this.1, this.2.1, this.2.2.1, wid_halv 17 _ (fuel17 hn.2.1) (by simp; omega) hn.2.1 (by simp; omega)⟩
theorem rbF_pre (g : Int) (zs cs : List Int) (r : Rs) : r.bits <+: rbF g zs cs r := by
  induction zs generalizing cs r with
  | nil => exact List.prefix_append _ _
  | cons z zs ih =>
    rw [rbF]
    exact List.IsPrefix.trans (wid_pre 17 ⟨nLow cs z.toNat r.low r.high, nHigh cs z.toNat r.low r.high, r.wait, r.bits⟩) (ih _ _)
theorem get_out (B : List Bool) (i : Nat) (h : B.length ≤ i) : B[i]?.getD false = false := by rw [List.getElem?_eq_none h]; rfl
theorem codF_out (B : List Bool) (a i : Nat) (h : B.length ≤ i) : codF B a i 0 = 0 := by
  induction a with
  | zero => rfl
  | succ a ih => rw [codF_snoc, ih]; unfold bitI; rw [get_out B _ (by omega)]; simp
theorem inv_end (r : Rs) (cs : List Int) (h : Mid r cs) : Inv (r.bits ++ tellB (decide (16384 ≤ r.low)) (r.wait + 1)) r := by
  obtain ⟨B, hB⟩ : ∃ B, r.bits ++ tellB (decide (16384 ≤ r.low)) (r.wait + 1) = B := ⟨_, rfl⟩
  have hl : B.length = r.bits.length + r.wait + 2 := by rw [← hB, List.length_append, tell_len]; omega
  obtain ⟨h1, h2⟩ := tell_get r.bits (decide (16384 ≤ r.low)) (r.wait + 1) (B := B) (by rw [hB]; exact List.prefix_refl _)
  have h3 := tell_cod B r.bits.length (r.wait + 1) _ h1 h2
  rw [hB]
  unfold Inv cd
  have e : codF B (16 + r.wait) r.bits.length 0 = codF B (1 + (r.wait + 1)) r.bits.length 0 * 2 ^ 14 := by
    rw [show 16 + r.wait = (1 + (r.wait + 1)) + 14 by omega, codF_app, codF_split, codF_out B 14 (r.bits.length + (1 + (r.wait + 1))) (by omega)]; omega
  rw [e, h3, Int.pow_succ]
  have hn := h.n
  unfold halv at hn
  split at hn
  · cases hn
  · split at hn
    · cases hn
    · split at hn
      · cases hn
      · have := h.l0
        have := h.lh
        generalize (2 : Int) ^ r.wait = q
        by_cases hlow : 16384 ≤ r.low
        · rw [if_pos (by simpa using hlow)]; omega
        · rw [if_neg (by simpa using hlow)]; omega
theorem inv_all (g : Int) (zs cs : List Int) (r : Rs) (h : Mid r cs) (hp : Pos cs) (hg : 0 ≤ g) (hs : sumL cs + g * zs.length ≤ 16384) (hz : ∀ z ∈ zs, 0 ≤ z ∧ z < cs.length) : Inv (rbF g zs cs r) r := by
  induction zs generalizing cs r with
  | nil => exact inv_end r cs h
  | cons z zs ih =>
    have hz0 := hz z (by simp)
    have hl : z.toNat < cs.length := by omega
    have hgl : 0 ≤ g * (zs.length : Int) := Int.mul_nonneg hg (by omega)
    have e : g * ((zs.length + 1 : Nat) : Int) = g * zs.length + g := by rw [Int.natCast_add, Int.mul_add]; simp
    rw [List.length_cons, e] at hs
    have hi := ih (bumpG cs z.toNat g) _ (h.next hp (by omega) hl _) (bumpG_pos hp hl hg) (by rw [bumpG_sum hl]; omega) (fun y hy => by rw [bumpG_len]; exact hz y (List.mem_cons_of_mem _ hy))
    rw [rbF]
    have hb := wid_back 17 ⟨nLow cs z.toNat r.low r.high, nHigh cs z.toNat r.low r.high, r.wait, r.bits⟩ _ (rbF_pre g zs _ _) hi
    have hw := halv_none h.n
    have hn := narrow_bd hp hl h.l0 h.h1 (by omega)
    unfold Inv at hb ⊢
    dsimp only at hb
    omega
/-- The letter at the place of what is held. -/
theorem letr_eq {cs : List Int} (hp : Pos cs) {l : Nat} (hl : l < cs.length) {low high code : Int} (h1 : low ≤ code) (h2 : code ≤ high) (ha : nLow cs l low high ≤ code) (hb : code ≤ nHigh cs l low high) : letr cs (place cs low high code) = l := by
  have hne : cs ≠ [] := by rintro rfl; simp at hl
  have hs : 0 < sumL cs := by have := sumL_pos hp; omega
  have hw : 0 < high - low + 1 := by omega
  have p1 : befo cs l ≤ place cs low high code := by
    unfold place nLow at *
    rw [Int.le_ediv_iff_mul_le hw]
    have : (high - low + 1) * befo cs l / sumL cs < code - low + 1 := by omega
    rw [Int.ediv_lt_iff_lt_mul hs, Int.mul_comm (code - low + 1)] at this
    rw [Int.mul_comm (befo cs l), Int.mul_comm (code - low + 1)]; omega
  have p2 : place cs low high code < befo cs l + git cs l := by
    unfold place nHigh at *
    rw [Int.ediv_lt_iff_lt_mul hw]
    have : code - low + 1 ≤ (high - low + 1) * (befo cs l + git cs l) / sumL cs := by omega
    rw [Int.le_ediv_iff_mul_le hs] at this
    rw [Int.mul_comm (befo cs l + git cs l)]; omega
  have hpl := place_bd hp hne h1 h2
  obtain ⟨q0, q1, q2⟩ := letr_bd hp hne hpl.1 hpl.2
  generalize letr cs (place cs low high code) = k at *
  rw [← befo_succ q0] at q2
  rw [← befo_succ hl] at p2
  rcases Nat.lt_trichotomy k l with h | h | h
  · have := befo_mono hp (a := k + 1) (b := l) (by omega) (by omega); omega
  · exact h
  · have := befo_mono hp (a := l + 1) (b := k) (by omega) (by omega); omega
theorem rt_all (g : Int) (zs cs : List Int) (r : Rs) (h : Mid r cs) (hp : Pos cs) (hg : 0 ≤ g) (hs : sumL cs + g * zs.length ≤ 16384) (hz : ∀ z ∈ zs, 0 ≤ z ∧ z < cs.length) (out : List Int) :
    rtF g (rbF g zs cs r) zs.length cs ⟨r.low, r.high, cd (rbF g zs cs r) r.bits.length r.wait, 16 + r.bits.length + r.wait⟩ out = out ++ zs := by
  induction zs generalizing cs r out with
  | nil => rw [List.append_nil]; rfl
  | cons z zs ih =>
    have hz0 := hz z (by simp)
    have hl : z.toNat < cs.length := by omega
    have hI := inv_all g (z :: zs) cs r h hp hg hs hz
    have hgl : 0 ≤ g * (zs.length : Int) := Int.mul_nonneg hg (by omega)
    have e : g * ((zs.length + 1 : Nat) : Int) = g * zs.length + g := by rw [Int.natCast_add, Int.mul_add]; simp
    rw [List.length_cons, e] at hs
    have hm := h.next hp (by omega) hl (bumpG cs z.toNat g)
    have hbp := bumpG_pos hp hl hg
    have hbs : sumL (bumpG cs z.toNat g) + g * zs.length ≤ 16384 := by rw [bumpG_sum hl]; omega
    have hbz : ∀ y ∈ zs, 0 ≤ y ∧ y < (bumpG cs z.toNat g).length := fun y hy => by rw [bumpG_len]; exact hz y (List.mem_cons_of_mem _ hy)
    have hJ := wid_back 17 ⟨nLow cs z.toNat r.low r.high, nHigh cs z.toNat r.low r.high, r.wait, r.bits⟩ _ (rbF_pre g zs _ _) (inv_all g zs _ _ hm hbp hg hbs hbz)
    have hF := wid_front 17 ⟨nLow cs z.toNat r.low r.high, nHigh cs z.toNat r.low r.high, r.wait, r.bits⟩ _ (rbF_pre g zs (bumpG cs z.toNat g) _)
    rw [rbF] at hI ⊢
    rw [List.length_cons, rtF]
    dsimp only
    have hlet := letr_eq hp hl hI.1 hI.2 hJ.1 hJ.2
    rw [hlet]
    dsimp only at hF
    rw [hF, ih (bumpG cs z.toNat g) _ hm hbp hbs hbz]
    rw [List.append_assoc, show (z.toNat : Int) = z by omega]; rfl
/-- The round trip. -/
theorem rt_rb (g : Int) (cs zs : List Int) (hp : Pos cs) (hg : 0 ≤ g) (hs : sumL cs + g * zs.length ≤ 16384) (hz : ∀ z ∈ zs, 0 ≤ z ∧ z < cs.length) : rt g cs (rb g cs zs) zs.length = zs := by
  have := rt_all g zs cs ⟨0, 65535, 0, []⟩ ⟨by decide, by decide, by decide, by decide⟩ hp hg hs hz []
  rw [cd_zero] at this
  exact this
end Go.Proofs.Ytbhconogaoghmaa
