/- Stated, plain: places have as many letters as shares tell; a text comes back from its state. Plain; conditions: what each theorem names. -/
import Derived.Test.YtnhcoggjnbldiaaStP
import Derived.Test.YtnhcoggjnbldiaaStT
import Derived.Test.YtnhcoggjnbldiaaSprS
import Derived.Test.YtnhcoggjnbldiaaShoP
namespace Go.Proofs.Ytnhcoggjnbldiaa
open Go.RowKit
set_option maxRecDepth 100000
set_option linter.unusedVariables false
set_option linter.unusedSimpArgs false

/-- The letters in the order of the shares. -/
def lets : Nat → List Int → List Int
  | _, [] => []
  | i, z :: zs => List.replicate z.toNat (i : Int) ++ lets (i + 1) zs
theorem lets_ge (i : Nat) (zs : List Int) : ∀ y ∈ lets i zs, (i : Int) ≤ y := by
  induction zs generalizing i with
  | nil => intro y hy; cases hy
  | cons z zs ih =>
    intro y hy
    rw [lets] at hy
    rcases List.mem_append.1 hy with hy | hy
    · rw [List.eq_of_mem_replicate hy]; omega
    · have := ih (i + 1) y hy; omega
theorem lets_count (i x : Nat) (zs : List Int) : (lets i zs).countP (· == ((i + x : Nat) : Int)) = (zs.getD x 0).toNat := by
  induction zs generalizing i x with
  | nil => simp [lets]
  | cons z zs ih =>
    rw [lets, List.countP_append]
    cases x with
    | zero =>
      have h0 : (lets (i + 1) zs).countP (· == ((i + 0 : Nat) : Int)) = 0 := by
        rw [List.countP_eq_zero]
        intro y hy
        have := lets_ge _ _ y hy
        simp; omega
      rw [h0, Nat.add_zero, List.countP_replicate]; simp
    | succ x =>
      have h0 : (List.replicate z.toNat (i : Int)).countP (· == ((i + (x + 1) : Nat) : Int)) = 0 := by
        rw [List.countP_eq_zero]
        intro y hy
        rw [List.eq_of_mem_replicate hy]
        simp; omega
      rw [h0, Nat.zero_add, show i + (x + 1) = i + 1 + x by omega, ih]
      simp
theorem lets_len (i : Nat) (zs : List Int) (h : ∀ z ∈ zs, 0 ≤ z) : ((lets i zs).length : Int) = sumL zs := by
  induction zs generalizing i with
  | nil => rfl
  | cons z zs ih =>
    have h1 := h z List.mem_cons_self
    have h2 := ih (i + 1) (fun y hy => h y (List.mem_cons_of_mem _ hy))
    rw [lets, List.length_append, List.length_replicate, sumL]; omega
def sg (N st k : Nat) : Nat := (k * st) % N
/-- The letters ls are put at the first places of the walk. -/
def Put (N st : Nat) (s : Sp) (ls : List Int) : Prop := s.pl = sg N st ls.length ∧ s.out.length = N ∧ ∀ j (h : j < ls.length), s.out.getD (sg N st j) 0 = ls[j]
theorem put_one {N st : Nat} (hN : 0 < N) (hinj : ∀ i j, i < j → j < N → sg N st i ≠ sg N st j) {s : Sp} {ls : List Int} (h : Put N st s ls) (L : Int) (hl : ls.length < N) : Put N st ⟨(s.pl + st) % N, s.out.set s.pl L⟩ (ls ++ [L]) := by
  obtain ⟨h1, h2, h3⟩ := h
  refine ⟨?_, ?_, ?_⟩
  · show (s.pl + st) % N = _
    rw [List.length_append, List.length_singleton, h1]
    unfold sg
    rw [Nat.mod_add_mod, Nat.add_mul, Nat.one_mul]
  · show (s.out.set s.pl L).length = N
    rw [List.length_set]; exact h2
  · intro j hj
    show (s.out.set s.pl L).getD (sg N st j) 0 = _
    rw [List.length_append, List.length_singleton] at hj
    by_cases hjk : j = ls.length
    · subst hjk
      have hb : s.pl < s.out.length := by rw [h2, h1]; exact Nat.mod_lt _ hN
      rw [← h1, List.getD_eq_getElem?_getD, List.getElem?_set_self hb]
      simp
    · have hne := hinj j ls.length (by omega) hl
      rw [List.getD_eq_getElem?_getD, List.getElem?_set_ne (by rw [h1]; exact Ne.symm hne), ← List.getD_eq_getElem?_getD, h3 j (by omega), List.getElem_append_left (by omega)]
theorem put_in {N st : Nat} (hN : 0 < N) (hinj : ∀ i j, i < j → j < N → sg N st i ≠ sg N st j) (L : Int) (c : Nat) {s : Sp} {ls : List Int} (h : Put N st s ls) (hl : ls.length + c ≤ N) : Put N st (spI N st L c s) (ls ++ List.replicate c L) := by
  induction c generalizing s ls with
  | zero => simpa [spI] using h
  | succ c ih =>
    have h1 := ih (put_one hN hinj h L (by omega)) (by rw [List.length_append, List.length_singleton]; omega)
    rw [spI]
    rw [List.append_assoc] at h1
    exact h1
theorem put_out {N st : Nat} (hN : 0 < N) (hinj : ∀ i j, i < j → j < N → sg N st i ≠ sg N st j) (zs : List Int) (i : Nat) {s : Sp} {ls : List Int} (h : Put N st s ls) (hl : ls.length + (lets i zs).length ≤ N) : Put N st (spO N st i zs s) (ls ++ lets i zs) := by
  induction zs generalizing i s ls with
  | nil => simpa [spO, lets] using h
  | cons z zs ih =>
    rw [lets, List.length_append, List.length_replicate] at hl
    have h1 := ih (i + 1) (put_in hN hinj (i : Int) z.toNat h (by omega)) (by rw [List.length_append, List.length_replicate]; omega)
    rw [spO, lets, ← List.append_assoc]
    exact h1
theorem sg_perm (n : Nat) (h1 : 1 ≤ n) (h8 : n ≤ 8) : ((List.range (2 ^ n)).map (sg (2 ^ n) (stp n))).isPerm (List.range (2 ^ n)) = true := by
  have key : ∀ m, m < 8 → ((List.range (2 ^ (m + 1))).map (sg (2 ^ (m + 1)) (stp (m + 1)))).isPerm (List.range (2 ^ (m + 1))) = true := by decide +kernel
  have := key (n - 1) (by omega)
  rwa [show n - 1 + 1 = n by omega] at this
theorem sg_inj (n : Nat) (h1 : 1 ≤ n) (h8 : n ≤ 8) (i j : Nat) (hij : i < j) (hj : j < 2 ^ n) : sg (2 ^ n) (stp n) i ≠ sg (2 ^ n) (stp n) j := by
  have hp := List.isPerm_iff.1 (sg_perm n h1 h8)
  have hn : ((List.range (2 ^ n)).map (sg (2 ^ n) (stp n))).Nodup := hp.nodup_iff.2 List.nodup_range
  have := List.pairwise_iff_getElem.1 hn i j (by simpa using (by omega : i < 2 ^ n)) (by simpa using hj) hij
  simpa using this
/-- Places have as many of each letter as shares tell. -/
theorem spr_count {p : Int} {zs : List Int} (h : shs p zs = true) (x : Nat) : (spr p.toNat zs).countP (· == (x : Int)) = (zs.getD x 0).toNat := by
  obtain ⟨n, rfl, h1, h8, hl2, hl16, hz, hsum⟩ := shs_parts h
  rw [Int.toNat_natCast]
  have hN := Nat.two_pow_pos n
  have hll : (lets 0 zs).length = 2 ^ n := by
    have := lets_len 0 zs (fun z hz' => by have := hz z hz'; omega)
    rw [hsum] at this
    exact Int.ofNat.inj (by rw [Int.ofNat_eq_natCast, this]; simp)
  have hput := put_out hN (sg_inj n h1 h8) zs 0 (s := ⟨0, List.replicate (2 ^ n) 0⟩) (ls := []) ⟨by simp [sg], List.length_replicate, fun j h => absurd h (Nat.not_lt_zero _)⟩ (by rw [List.length_nil, Nat.zero_add, hll]; exact Nat.le_refl _)
  rw [List.nil_append] at hput
  obtain ⟨-, ho, hg⟩ := hput
  have e1 : spr n zs = (List.range (2 ^ n)).map fun k => (spr n zs).getD k 0 := by
    refine List.ext_getElem (by simp [spr_len]) fun k hk1 hk2 => ?_
    rw [List.getElem_map, List.getElem_range, List.getD_eq_getElem?_getD, List.getElem?_eq_getElem hk1]
    rfl
  have e2 : lets 0 zs = ((List.range (2 ^ n)).map (sg (2 ^ n) (stp n))).map fun k => (spr n zs).getD k 0 := by
    refine List.ext_getElem (by simp [hll]) fun k hk1 hk2 => ?_
    rw [List.getElem_map, List.getElem_map, List.getElem_range]
    exact (hg k hk1).symm
  have hp : (lets 0 zs).Perm (spr n zs) := by
    rw [e1, e2]
    exact (List.isPerm_iff.1 (sg_perm n h1 h8)).map _
  rw [← hp.countP_eq]
  have := lets_count 0 x zs
  rwa [Nat.zero_add] at this

theorem hvF_pre (f k s : Nat) (b : List Bool) : ∃ t, (hvF f k s b).2 = b ++ t := by
  induction k generalizing s b with
  | zero => exact ⟨[], by simp [hvF]⟩
  | succ k ih =>
    rw [hvF]
    split
    · obtain ⟨t, ht⟩ := ih (s / 2) (b ++ [s % 2 == 1])
      exact ⟨_, by rw [ht, List.append_assoc]⟩
    · exact ⟨[], by simp⟩
theorem ref_undo (N f k s : Nat) (b bs : List Bool) (hs : s < 2 * N) (hp : ∃ t, bs = (hvF f k s b).2 ++ t) : refF N bs (hvF f k s b).2.length (hvF f k s b).1 = refF N bs b.length s := by
  induction k generalizing s b with
  | zero => rfl
  | succ k ih =>
    by_cases h : 2 * f ≤ s
    · rw [hvF_in f k s b h] at hp ⊢
      rw [ih (s / 2) _ (by omega) hp, List.length_append, List.length_singleton, refF_in _ _ _ _ (by omega)]
      obtain ⟨t, ht⟩ := hp
      obtain ⟨u, hu⟩ := hvF_pre f k (s / 2) (b ++ [s % 2 == 1])
      have e : bF bs b.length = s % 2 := by
        unfold bF
        rw [ht, hu, List.append_assoc, List.append_assoc, List.getD_eq_getElem?_getD, List.getElem?_append_right (Nat.le_refl _), Nat.sub_self]
        simp
        split <;> omega
      rw [e]
      congr 1
      omega
    · rw [hvF_out f (k + 1) s b h]
theorem pl_spec (L : Int) (tb : List Int) (i n : Nat) (h : n < tb.countP (· == L)) : ∃ q, plF L tb i n = i + q ∧ q < tb.length ∧ tb.getD q 0 = L ∧ cnt tb L q = n := by
  induction tb generalizing i n with
  | nil => simp at h
  | cons t ts ih =>
    by_cases ht : t = L
    · by_cases hn : n = 0
      · exact ⟨0, by simp [plF, ht, hn], by simp, by simp [ht], by simp [cnt, hn]⟩
      · obtain ⟨q, h1, h2, h3, h4⟩ := ih (i + 1) (n - 1) (by rw [List.countP_cons] at h; simp [ht] at h; omega)
        refine ⟨q + 1, by rw [plF, if_pos ht, if_neg hn, h1]; omega, by simp; omega, by simpa using h3, ?_⟩
        unfold cnt at h4 ⊢
        rw [List.take_succ_cons, List.countP_cons, h4]
        simp [ht]; omega
    · obtain ⟨q, h1, h2, h3, h4⟩ := ih (i + 1) n (by rw [List.countP_cons] at h; simpa [ht] using h)
      refine ⟨q + 1, by rw [plF, if_neg ht, h1]; omega, by simp; omega, by simpa using h3, ?_⟩
      unfold cnt at h4 ⊢
      rw [List.take_succ_cons, List.countP_cons, h4]
      simp [ht]
theorem undo (N : Nat) (hN1 : 0 < N) (hN256 : N ≤ 256) (tb zs : List Int) (htb : tb.length = N) (hz : ∀ z ∈ zs, 1 ≤ z ∧ z ≤ (N : Int)) (hc : ∀ x : Nat, tb.countP (· == (x : Int)) = (zs.getD x 0).toNat) (bs : List Bool) (ls : List Int) (hls : ∀ L ∈ ls, 0 ≤ L ∧ L < zs.length) (hbs : ∃ t, bs = (sbF N tb zs ls.reverse).2 ++ t) (out : List Int) :
    stF N tb zs bs ls.length (sbF N tb zs ls.reverse).1 (sbF N tb zs ls.reverse).2.length out = some (out ++ ls) := by
  induction ls generalizing out with
  | nil =>
    show stF N tb zs bs 0 N 0 out = _
    rw [stF, if_pos ⟨rfl, rfl⟩, List.append_nil]
  | cons L ls ih =>
    obtain ⟨hs1, hs2, -⟩ := sb_ok' N hN1 hN256 tb zs htb hz ls (fun y hy => hls y (List.mem_cons_of_mem _ hy))
    have hL := hls L List.mem_cons_self
    obtain ⟨l, rfl⟩ := Int.eq_ofNat_of_zero_le hL.1
    have hll : l < zs.length := by omega
    rw [List.reverse_cons, sbF_snoc] at hbs ⊢
    have ih' := ih (fun y hy => hls y (List.mem_cons_of_mem _ hy))
    generalize sbF N tb zs ls.reverse = X at *
    obtain ⟨s, b⟩ := X
    unfold sbStep at hbs ⊢
    rw [Int.toNat_natCast] at hbs ⊢
    have hzl : zs.getD l 0 = zs[l] := by rw [List.getD_eq_getElem?_getD, List.getElem?_eq_getElem hll]; rfl
    have hzb := hz zs[l] (List.getElem_mem hll)
    have hcl := hc l
    generalize hf : (zs.getD l 0).toNat = f at *
    have hf1 : 1 ≤ f := by rw [hzl] at hf; omega
    have hfN : f ≤ N := by rw [hzl] at hf; omega
    simp only at hs1 hs2 hbs ih' ⊢
    obtain ⟨g1, g2, -⟩ := hvF_ok N f hf1 hfN 9 s b (by omega) (by omega)
    obtain ⟨q, p1, p2, p3, p4⟩ := pl_spec (l : Int) tb 0 ((hvF f 9 s b).1 - f) (by rw [hcl]; omega)
    rw [p1, Nat.zero_add, List.length_cons, stF, Nat.add_sub_cancel_left]
    have e1 : nxS tb zs q = (hvF f 9 s b).1 := by
      unfold nxS letP
      rw [p3, Int.toNat_natCast, hf, p4]; omega
    rw [e1, ref_undo N f 9 s b bs hs2 hbs, refF_out _ _ _ _ (by omega), Option.bind_some, p3]
    obtain ⟨t, ht⟩ := hbs
    obtain ⟨u, hu⟩ := hvF_pre f 9 s b
    have := ih' ⟨u ++ t, by rw [ht, hu, List.append_assoc]⟩ (out ++ [(l : Int)])
    rw [this, List.append_assoc]; rfl
/-- A text comes back from its state. -/
theorem st_back {p : Int} {zs ts : List Int} (h : sbOk p zs ts = true) : sxOk p zs (sbZ p zs ts) (sbS p zs ts) (ts.length : Int) = true ∧ sxZ p zs (sbZ p zs ts) (sbS p zs ts) (ts.length : Int) = ts := by
  have hlen := sbZ_len p zs ts
  have h' := h
  rw [sbOk, Bool.and_eq_true] at h'
  obtain ⟨hs, ht⟩ := h'
  have hcnt := spr_count hs
  obtain ⟨n, rfl, h1, h8, hl2, hl16, hz, hsum⟩ := shs_parts hs
  rw [Int.toNat_natCast] at hcnt
  simp only [txt, sgn, inB, Bool.and_eq_true, decide_eq_true_eq] at ht
  have htb := (allIn_iff _ _ _).1 ht.2
  have hN := Nat.two_pow_pos n
  have hN256 : 2 ^ n ≤ 256 := Nat.le_trans (Nat.pow_le_pow_right (by decide) h8) (by decide)
  have hz2 : ∀ z ∈ zs, 1 ≤ z ∧ z ≤ ((2 ^ n : Nat) : Int) := fun z hz' => by
    have h1 := hz z hz'
    have h2 := (sum_ge (zs := zs) (fun y hy => by have := hz y hy; omega)).2 z hz'
    rw [hsum] at h2
    refine ⟨h1.1, by simpa using h2⟩
  have hls : ∀ L ∈ ts, 0 ≤ L ∧ L < zs.length := fun L hL => by have := htb L hL; omega
  obtain ⟨k1, k2, -⟩ := sb_ok' (2 ^ n) hN hN256 (spr n zs) zs (spr_len n zs) hz2 ts hls
  have U := undo (2 ^ n) hN hN256 (spr n zs) zs (spr_len n zs) hz2 hcnt (sbF (2 ^ n) (spr n zs) zs ts.reverse).2 ts hls ⟨[], by simp⟩ []
  have eR : sbR (n : Int) zs ts = sbF (2 ^ n) (spr n zs) zs ts.reverse := by rw [sbR, if_pos h, Int.toNat_natCast]
  have eo : sxO (n : Int) zs (sbZ n zs ts) (sbS n zs ts) (ts.length : Int) = some ts := by
    have hok : sxOk0 (n : Int) zs (sbZ n zs ts) (sbS n zs ts) (ts.length : Int) = true := by
      simp only [sxOk0, inB, Bool.and_eq_true, decide_eq_true_eq, Int.toNat_natCast]
      refine ⟨hs, hlen, ⟨by omega, by omega⟩, ?_, ?_⟩ <;> unfold sbS <;> rw [eR] <;> omega
    rw [sxO, if_pos hok, Int.toNat_natCast, Int.toNat_natCast]
    unfold sbZ sbS
    rw [eR, Int.toNat_natCast]
    simpa using U
  obtain ⟨a, b⟩ := sx_some eo
  exact ⟨b, a⟩
/-- What is needed of shares that are found. -/
theorem shf_ok {n : Int} {cs : List Int} {p : Int} (h : shfOk n cs p = true) : shfN n cs p = p ∧ shs p (shfZ n cs p) = true ∧ shfZ n cs p = shfF (2 ^ p.toNat) cs := by
  have e : shfZ n cs p = shfF (2 ^ p.toNat) cs := by rw [shfZ, if_pos h]
  exact ⟨by rw [shfN, if_pos h], by rw [e]; exact shf_shs n cs p h, e⟩
/-- As many shares as counts. -/
theorem shf_len {n : Int} {cs : List Int} {p : Int} (h : shfOk n cs p = true) : (shfZ n cs p).length = cs.length := by
  rw [(shf_ok h).2.2]
  simp only [shfOk, Bool.and_eq_true, decide_eq_true_eq] at h
  obtain ⟨hc, hp, hn⟩ := h
  obtain ⟨h1, h2, h3, h4, h5⟩ := cts_parts hc
  have hl : (sf0 (2 ^ p.toNat) (sumL cs) cs).length = cs.length := by simp [sf0]
  have hge := sf0_ge (2 ^ p.toNat) (sumL cs) cs
  have hsg := sumL_ge _ hge
  rw [hl] at hsg
  generalize hN : (2 : Int) ^ p.toNat = N at *
  unfold shfF
  dsimp only
  split
  · exact (upF_ok cs (N - sumL (sf0 N (sumL cs) cs)).toNat (List.replicate cs.length 0) (sf0 N (sumL cs) cs) (by omega) hl hge).2.2
  · rw [(dnF_ok (sumL (sf0 N (sumL cs) cs) - N).toNat (sf0 N (sumL cs) cs) (by omega) hge (by omega)).2.2, hl]
/-- Counts that are small are counts. -/
theorem cts_of {l : Nat} {cs : List Int} (h2 : 2 ≤ l) (h6 : l ≤ 6) (hl : cs.length = l) (hz : ∀ z ∈ cs, 1 ≤ z ∧ z ≤ 900) : cts (l : Int) cs = true := by
  have hs := (sumL_bd (M := 900) (zs := cs) (fun z h => by have := hz z h; omega) (by omega)).2
  rw [hl] at hs
  simp only [cts, sgn, inB, Bool.and_eq_true, decide_eq_true_eq, beq_iff_eq, allIn_iff]
  exact ⟨⟨by omega, by omega⟩, by omega, fun z h => by have := hz z h; omega, by omega⟩
end Go.Proofs.Ytnhcoggjnbldiaa
