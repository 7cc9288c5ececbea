/- Values mended: what the loops over all sets of places compute, as plain functions. No conditions. -/
import Derived.Test.YtgkciionmhoofaaMvP
import Derived.Test.YtgkciionmhoofaaBits
import Derived.Test.YtgkciionmhoofaaEchP
namespace Go.Proofs.Ytgkciionmhoofaa
set_option maxRecDepth 100000
set_option linter.unusedVariables false
set_option linter.unusedSimpArgs false

def pkN (set i : Nat) : List Nat := (List.range i).filter fun j => hasD set j
def pkP (set i : Nat) : List Int := (pkN set i).map fun j : Nat => (j : Int)
def pkV (vs : List Int) (set i : Nat) : List Int := (pkN set i).map (gI vs)
theorem pkN_snoc (set i : Nat) : pkN set (i + 1) = if hasD set i = true then pkN set i ++ [i] else pkN set i := by
  unfold pkN; rw [List.range_succ, List.filter_append]
  by_cases h : hasD set i = true
  · rw [if_pos h]; simp [h]
  · rw [if_neg h]; simp [h]
theorem pkN_len (set i : Nat) : (pkN set i).length ≤ i := by
  unfold pkN; have := List.length_filter_le (fun j => hasD set j) (List.range i); simpa using this
theorem pkP_len (set i : Nat) : (pkP set i).length = (pkN set i).length := by simp [pkP]
theorem pkV_len (vs : List Int) (set i : Nat) : (pkV vs set i).length = (pkN set i).length := by simp [pkV]
theorem pkP_snoc (set i : Nat) : pkP set (i + 1) = if hasD set i = true then pkP set i ++ [(i : Int)] else pkP set i := by
  unfold pkP; rw [pkN_snoc]; split <;> simp
theorem pkV_snoc (vs : List Int) (set i : Nat) : pkV vs set (i + 1) = if hasD set i = true then pkV vs set i ++ [gI vs i] else pkV vs set i := by
  unfold pkV; rw [pkN_snoc]; split <;> simp
theorem pkN_mem {set i j : Nat} (h : j ∈ pkN set i) : j < i ∧ hasD set j = true := by
  unfold pkN at h; rw [List.mem_filter, List.mem_range] at h; exact h
theorem pkP_bd {set i : Nat} {p : Int} (hi : (i : Int) ≤ p) : ∀ z ∈ pkP set i, 0 ≤ z ∧ z < p := by
  intro z hz
  obtain ⟨j, hj, rfl⟩ := List.mem_map.1 hz
  have := pkN_mem hj; omega
theorem gI_bd {vs : List Int} {p : Int} (hp : 0 < p) (h : ∀ z ∈ vs, 0 ≤ z ∧ z < p) (i : Nat) : 0 ≤ gI vs i ∧ gI vs i < p := by
  unfold gI
  cases hi : vs[i]? with
  | none => simp; exact hp
  | some z => exact h z (List.mem_of_getElem? hi)
theorem pkV_bd {vs : List Int} {set i : Nat} {p : Int} (hp : 0 < p) (h : ∀ z ∈ vs, 0 ≤ z ∧ z < p) : ∀ z ∈ pkV vs set i, 0 ≤ z ∧ z < p := by
  intro z hz
  obtain ⟨j, hj, rfl⟩ := List.mem_map.1 hz
  exact gI_bd hp h j
theorem range_lt (n : Nat) : (List.range n).Pairwise (· < ·) := List.pairwise_lt_range
theorem pkN_pw (set i : Nat) : (pkN set i).Pairwise (· < ·) := (range_lt i).filter _
theorem pkP_dst (set i : Nat) : Dst (pkP set i) := by
  have h := List.pairwise_iff_getElem.1 (pkN_pw set i)
  intro j k hj hk hne e
  rw [pkP_len] at hj hk
  simp only [pkP, List.getElem_map] at e
  rcases Nat.lt_or_ge j k with hlt | hge
  · have := h j k hj hk hlt; omega
  · have := h k j hk hj (by omega); omega
def trs (p : Int) (vs : List Int) (n set : Nat) : List Int := trm p (pkP set n) (pkV vs set n)
def mis (p : Int) (ts vs : List Int) (i : Nat) : Nat := ((List.range i).filter fun x : Nat => !(valF p (x : Int) ts == gI vs x)).length
def hit (p : Int) (ts vs : List Int) (i : Nat) : Nat := ((List.range i).filter fun x : Nat => valF p (x : Int) ts == gI vs x).length
theorem mis_snoc (p : Int) (ts vs : List Int) (i : Nat) : mis p ts vs (i + 1) = mis p ts vs i + if valF p (i : Int) ts == gI vs i then 0 else 1 := by
  unfold mis; rw [List.range_succ, List.filter_append, List.length_append]
  cases h : valF p (i : Int) ts == gI vs i <;> simp [h]
theorem hit_snoc (p : Int) (ts vs : List Int) (i : Nat) : hit p ts vs (i + 1) = hit p ts vs i + if valF p (i : Int) ts == gI vs i then 1 else 0 := by
  unfold hit; rw [List.range_succ, List.filter_append, List.length_append]
  cases h : valF p (i : Int) ts == gI vs i <;> simp [h]
theorem mis_hit (p : Int) (ts vs : List Int) (i : Nat) : mis p ts vs i + hit p ts vs i = i := by
  induction i with
  | zero => rfl
  | succ i ih =>
    rw [mis_snoc, hit_snoc]
    cases valF p (i : Int) ts == gI vs i <;> simp <;> omega
theorem digit_ex {set n : Nat} (h0 : set ≠ 0) (h : set < 2 ^ n) : ∃ j, j < n ∧ hasD set j = true := by
  induction n generalizing set with
  | zero => simp at h; omega
  | succ n ih =>
    by_cases h2 : set % 2 = 1
    · exact ⟨0, by omega, by simp [hasD, h2]⟩
    · rw [Nat.pow_succ] at h
      obtain ⟨j, hj, hd⟩ := ih (set := set / 2) (by omega) (by omega)
      refine ⟨j + 1, by omega, ?_⟩
      unfold hasD at hd ⊢
      rw [Nat.pow_succ, Nat.mul_comm, ← Nat.div_div_eq_div_mul]; exact hd
theorem trs_at {p : Int} (hp : prm p = true) {vs : List Int} (hv : ∀ z ∈ vs, 0 ≤ z ∧ z < p) {n : Nat} (hn : (n : Int) < p) (set j : Nat) (hj : j < n) (hd : hasD set j = true) : valF p (j : Int) (trs p vs n set) = gI vs j := by
  have hb := prm_bd hp
  have hm : j ∈ pkN set n := by unfold pkN; rw [List.mem_filter, List.mem_range]; exact ⟨hj, hd⟩
  obtain ⟨m, hml, hmj⟩ := List.getElem_of_mem hm
  have hvb := pkV_bd (vs := vs) (set := set) (i := n) (show 0 < p by omega) hv
  have hll : (pkP set n).length = (pkV vs set n).length := by rw [pkP_len, pkV_len]
  have hml2 : m < (pkP set n).length := by rw [pkP_len]; exact hml
  have h := thr_at hp (pkP set n) (pkV vs set n) (pkP_bd (by omega)) hvb hll (pkP_dst set n) m hml2
  have e1 : (pkP set n)[m] = (j : Int) := by simp [pkP, hmj]
  have e2 : gI (pkV vs set n) m = gI vs j := by
    rw [gI_eq (by rw [pkV_len]; exact hml)]; simp [pkV, hmj]
  unfold trs
  rw [valF_trm (by omega) _ _ _ hvb hll, ← e1, h, e2]
theorem wt_zero : wt 0 = 0 := wtF_zero 16
theorem hit_pos {p : Int} (hp : prm p = true) {vs : List Int} (hv : ∀ z ∈ vs, 0 ≤ z ∧ z < p) {n : Nat} (hn : (n : Int) < p) {set : Nat} (hs : set < 2 ^ n) (hw : wt set ≠ 0) : 1 ≤ hit p (trs p vs n set) vs n := by
  obtain ⟨j, hj, hd⟩ := digit_ex (set := set) (n := n) (fun e => hw (by rw [e]; exact wt_zero)) hs
  have hm : j ∈ (List.range n).filter fun x : Nat => valF p (x : Int) (trs p vs n set) == gI vs x := by
    rw [List.mem_filter, List.mem_range]
    exact ⟨hj, by rw [trs_at hp hv hn set j hj hd]; simp⟩
  exact List.length_pos_of_mem hm
structure Mv where
  best : List Int
  least : Nat
  sev : Bool
def mvStep (p : Int) (k : Nat) (vs : List Int) (n : Nat) (s : Mv) (set : Nat) : Mv :=
  if wt set = k then
    (if mis p (trs p vs n set) vs n < s.least then ⟨trs p vs n set, mis p (trs p vs n set) vs n, false⟩
     else if mis p (trs p vs n set) vs n = s.least ∧ trs p vs n set ≠ s.best then ⟨s.best, s.least, true⟩ else s)
  else s
def mv0 (n : Nat) : Mv := ⟨[], n + 1, false⟩
def mvF (p : Int) (k : Nat) (vs : List Int) (n N : Nat) : Mv := (List.range N).foldl (mvStep p k vs n) (mv0 n)
theorem mvF_snoc (p : Int) (k : Nat) (vs : List Int) (n N : Nat) : mvF p k vs n (N + 1) = mvStep p k vs n (mvF p k vs n N) N := by
  unfold mvF; rw [List.range_succ, List.foldl_append, List.foldl_cons, List.foldl_nil]
theorem mvStep_least (p : Int) (k : Nat) (vs : List Int) (n : Nat) (s : Mv) (set : Nat) : (mvStep p k vs n s set).least ≤ s.least := by
  unfold mvStep
  split
  · split
    · show mis p (trs p vs n set) vs n ≤ s.least; omega
    · split
      · exact Nat.le_refl _
      · exact Nat.le_refl _
  · exact Nat.le_refl _
theorem mvF_least {p : Int} {k : Nat} {vs : List Int} {n N set : Nat} (h : set < N) (hw : wt set = k) : (mvF p k vs n N).least ≤ n := by
  induction N with
  | zero => omega
  | succ N ih =>
    rw [mvF_snoc]
    by_cases hs : set < N
    · exact Nat.le_trans (mvStep_least _ _ _ _ _ _) (ih hs)
    · obtain rfl : set = N := by omega
      have hm := mis_hit p (trs p vs n set) vs n
      unfold mvStep
      rw [if_pos hw]
      split
      · show mis p (trs p vs n set) vs n ≤ n; omega
      · split
        · show (mvF p k vs n set).least ≤ n; omega
        · omega
/-- The program counts what fits. -/
def Mst (n : Nat) (s : Mv) (most : Nat) : Prop := (s = mv0 n ∧ most = 0) ∨ (s.least ≤ n ∧ most + s.least = n ∧ 1 ≤ most)
theorem mst_step {p : Int} (hp : prm p = true) {vs : List Int} (hv : ∀ z ∈ vs, 0 ≤ z ∧ z < p) {n : Nat} (hn : (n : Int) < p) {set : Nat} (hs : set < 2 ^ n) {k : Nat} (hk : 1 ≤ k) (hw : wt set = k) {s : Mv} {most : Nat} (h : Mst n s most) :
    (most < hit p (trs p vs n set) vs n → mvStep p k vs n s set = ⟨trs p vs n set, n - hit p (trs p vs n set) vs n, false⟩ ∧ Mst n (mvStep p k vs n s set) (hit p (trs p vs n set) vs n)) ∧
    (hit p (trs p vs n set) vs n = most → trs p vs n set ≠ s.best → mvStep p k vs n s set = ⟨s.best, s.least, true⟩ ∧ Mst n (mvStep p k vs n s set) most) ∧
    (¬ most < hit p (trs p vs n set) vs n → ¬ (hit p (trs p vs n set) vs n = most ∧ trs p vs n set ≠ s.best) → mvStep p k vs n s set = s) := by
  have h1 := hit_pos hp hv hn hs (by omega)
  have h2 := mis_hit p (trs p vs n set) vs n
  generalize hH : hit p (trs p vs n set) vs n = H at *
  generalize hM : mis p (trs p vs n set) vs n = M at *
  rcases h with ⟨rfl, rfl⟩ | ⟨ha, hb, hc⟩
  · have hst : mvStep p k vs n (mv0 n) set = ⟨trs p vs n set, M, false⟩ := by
      rw [mvStep, if_pos hw, hM]; exact if_pos (show M < n + 1 by omega)
    refine ⟨fun _ => ?_, fun e => by omega, fun hno => by omega⟩
    rw [hst]
    exact ⟨by rw [show M = n - H by omega], .inr ⟨by show M ≤ n; omega, by show H + M = n; omega, h1⟩⟩
  · refine ⟨fun hlt => ?_, fun he hne => ?_, fun hno hno2 => ?_⟩
    · have hst : mvStep p k vs n s set = ⟨trs p vs n set, M, false⟩ := by
        rw [mvStep, if_pos hw, hM, if_pos (by omega)]
      rw [hst]
      exact ⟨by rw [show M = n - H by omega], .inr ⟨by show M ≤ n; omega, by show H + M = n; omega, h1⟩⟩
    · have hst : mvStep p k vs n s set = ⟨s.best, s.least, true⟩ := by
        rw [mvStep, if_pos hw, hM, if_neg (by omega), if_pos ⟨by omega, hne⟩]
      rw [hst]
      exact ⟨rfl, .inr ⟨ha, hb, hc⟩⟩
    · rw [mvStep, if_pos hw, hM, if_neg (by omega), if_neg (fun hh => hno2 ⟨by omega, hh.2⟩)]
theorem mvStep_no {p : Int} {k : Nat} {vs : List Int} {n : Nat} {s : Mv} {set : Nat} (h : wt set ≠ k) : mvStep p k vs n s set = s := by rw [mvStep, if_neg h]
def mvOk0 (p k : Int) (vs : List Int) : Bool := nums p vs 1 8 && (inB k 1 3 && (decide ((vs.length : Int) < p) && decide (k ≤ (vs.length : Int))))
def mvR (p k : Int) (vs : List Int) : Mv := mvF p k.toNat vs vs.length (2 ^ vs.length)
def mvOk (p k : Int) (vs : List Int) : Bool := mvOk0 p k vs && !(mvR p k vs).sev
def mvZ (p k : Int) (vs : List Int) : List Int := if mvOk p k vs = true then (mvR p k vs).best else []
def mvM (p k : Int) (vs : List Int) : Int := if mvOk p k vs = true then ((mvR p k vs).least : Int) else 0
theorem trs_len (p : Int) (vs : List Int) (n set : Nat) : (trs p vs n set).length ≤ n := by
  unfold trs; rw [trm_len, pkP_len]; exact pkN_len _ _
theorem mvF_len (p : Int) (k : Nat) (vs : List Int) (n N : Nat) : (mvF p k vs n N).best.length ≤ n := by
  induction N with
  | zero => exact Nat.zero_le _
  | succ N ih =>
    rw [mvF_snoc, mvStep]
    split
    · split
      · exact trs_len _ _ _ _
      · split <;> exact ih
    · exact ih
theorem mvZ_len (p k : Int) (vs : List Int) : (mvZ p k vs).length ≤ 16777216 := by
  unfold mvZ; split
  · have h : mvOk p k vs = true := by assumption
    simp only [mvOk, mvOk0, Bool.and_eq_true] at h
    have := nums_parts h.1.1
    have := mvF_len p k.toNat vs vs.length (2 ^ vs.length)
    unfold mvR; omega
  · simp
theorem wt_small : wt 1 = 1 ∧ wt 3 = 2 ∧ wt 7 = 3 := by decide
theorem mvR_least {p k : Int} {vs : List Int} (h : mvOk0 p k vs = true) : (mvR p k vs).least ≤ vs.length := by
  simp only [mvOk0, Bool.and_eq_true, inB, decide_eq_true_eq] at h
  obtain ⟨_, ⟨hk1, hk3⟩, _, hkn⟩ := h
  obtain ⟨w1, w2, w3⟩ := wt_small
  have hp : ∀ a b : Nat, a ≤ b → 2 ^ a ≤ 2 ^ b := fun a b h => Nat.pow_le_pow_right (by decide) h
  unfold mvR
  obtain ⟨K, rfl⟩ := Int.eq_ofNat_of_zero_le (show 0 ≤ k by omega)
  rw [Int.toNat_natCast]
  rcases (show K = 1 ∨ K = 2 ∨ K = 3 by omega) with rfl | rfl | rfl
  · exact mvF_least (set := 1) (by have := hp 1 vs.length (by omega); omega) w1
  · exact mvF_least (set := 3) (by have := hp 2 vs.length (by omega); omega) w2
  · exact mvF_least (set := 7) (by have := hp 3 vs.length (by omega); omega) w3
theorem mvF_bd {p : Int} (hp : 0 < p) (k : Nat) (vs : List Int) (n N : Nat) : ∀ z ∈ (mvF p k vs n N).best, 0 ≤ z ∧ z < p := by
  induction N with
  | zero => intro z hz; cases hz
  | succ N ih =>
    rw [mvF_snoc, mvStep]
    split
    · split
      · exact trm_bd hp _ _
      · split <;> exact ih
    · exact ih
end Go.Proofs.Ytgkciionmhoofaa
