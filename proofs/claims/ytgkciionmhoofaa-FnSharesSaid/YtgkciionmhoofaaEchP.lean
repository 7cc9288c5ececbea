/- Rows in steps: what the loops compute, as plain functions on lists. No conditions. -/
import Derived.Test.YtgkciionmhoofaaMem
import Derived.Test.YtgkciionmhoofaaBits
namespace Go.Proofs.Ytgkciionmhoofaa
open Go.RowKit
set_option maxRecDepth 100000
set_option linter.unusedVariables false
set_option linter.unusedSimpArgs false

def hasD (x i : Nat) : Bool := x / 2 ^ i % 2 == 1
def gt (ns : List Nat) (i : Nat) : Nat := ns[i]?.getD 0
theorem gt_eq {ns : List Nat} {i : Nat} (h : i < ns.length) : gt ns i = ns[i] := by simp [gt, h]
def clrF (k i : Nat) : Nat → Nat → List Nat → List Nat
  | 0, _, ns => ns
  | r + 1, j, ns => clrF k i r (j + 1) (if j ≠ k ∧ hasD (gt ns j) i = true then ns.set j (gt ns j ^^^ gt ns k) else ns)
def seek (i : Nat) (ns : List Nat) (at' : Nat) : Nat := at' + (ns.drop at').findIdx (fun x => hasD x i)
def swp (ns : List Nat) (k m : Nat) : List Nat := (ns.set m (gt ns k)).set k (gt ns m)
def stepE (i : Nat) (ns : List Nat) (k : Nat) : List Nat × Nat :=
  if seek i ns k < ns.length then (clrF k i ns.length 0 (swp ns k (seek i ns k)), k + 1) else (ns, k)
def ech : Nat → List Nat → Nat → List Nat × Nat
  | 0, ns, k => (ns, k)
  | i + 1, ns, k => ech i (stepE i ns k).1 (stepE i ns k).2
def Lt (M : Nat) (ns : List Nat) : Prop := ∀ n ∈ ns, n < M
theorem Lt.at {M : Nat} {ns : List Nat} (h : Lt M ns) (i : Nat) (hi : i < ns.length) : ns[i] < M := h _ (List.getElem_mem hi)
theorem Lt.set {M : Nat} {ns : List Nat} (h : Lt M ns) (i : Nat) {x : Nat} (hx : x < M) : Lt M (ns.set i x) := by
  intro n hn
  rcases List.mem_or_eq_of_mem_set hn with hn | rfl
  · exact h n hn
  · exact hx
theorem Lt.gt {M : Nat} {ns : List Nat} (h : Lt M ns) (i : Nat) (h0 : 0 < M) : gt ns i < M := by
  by_cases hi : i < ns.length
  · rw [gt_eq hi]; exact h.at i hi
  · unfold Go.Proofs.Ytgkciionmhoofaa.gt; rw [List.getElem?_eq_none (by omega)]; exact h0
theorem clrF_len (k i r j : Nat) (ns : List Nat) : (clrF k i r j ns).length = ns.length := by
  induction r generalizing j ns with
  | zero => rfl
  | succ r ih => rw [clrF, ih]; split <;> simp
theorem swp_len (ns : List Nat) (k m : Nat) : (swp ns k m).length = ns.length := by simp [swp]
theorem stepE_len (i : Nat) (ns : List Nat) (k : Nat) : (stepE i ns k).1.length = ns.length := by
  unfold stepE; split
  · rw [clrF_len, swp_len]
  · rfl
theorem seek_ge (i : Nat) (ns : List Nat) (k : Nat) : k ≤ seek i ns k := by unfold seek; omega
theorem seek_le (i : Nat) (ns : List Nat) (k : Nat) (hk : k ≤ ns.length) : seek i ns k ≤ ns.length := by
  unfold seek
  have := List.findIdx_le_length (p := fun x => hasD x i) (xs := ns.drop k)
  rw [List.length_drop] at this; omega
theorem stepE_k (i : Nat) (ns : List Nat) (k : Nat) (hk : k ≤ ns.length) : (stepE i ns k).2 ≤ ns.length ∧ k ≤ (stepE i ns k).2 := by
  unfold stepE; split
  · have := seek_ge i ns k; simp; omega
  · simp; omega
theorem clrF_lt {w k i r j : Nat} {ns : List Nat} (h : Lt (2 ^ w) ns) : Lt (2 ^ w) (clrF k i r j ns) := by
  induction r generalizing j ns with
  | zero => exact h
  | succ r ih =>
    rw [clrF]; apply ih
    have h0 : 0 < 2 ^ w := Nat.two_pow_pos w
    split
    · exact h.set _ (Nat.xor_lt_two_pow (h.gt j h0) (h.gt k h0))
    · exact h
theorem swp_lt {w k m : Nat} {ns : List Nat} (h : Lt (2 ^ w) ns) : Lt (2 ^ w) (swp ns k m) := by
  have h0 : 0 < 2 ^ w := Nat.two_pow_pos w
  exact (h.set m (h.gt k h0)).set k (h.gt m h0)
theorem stepE_lt {w i k : Nat} {ns : List Nat} (h : Lt (2 ^ w) ns) : Lt (2 ^ w) (stepE i ns k).1 := by
  unfold stepE; split
  · exact clrF_lt (swp_lt h)
  · exact h
theorem ech_len (i : Nat) (ns : List Nat) (k : Nat) : (ech i ns k).1.length = ns.length := by
  induction i generalizing ns k with
  | zero => rfl
  | succ i ih => rw [ech, ih, stepE_len]
theorem ech_k (i : Nat) (ns : List Nat) (k : Nat) (hk : k ≤ ns.length) : (ech i ns k).2 ≤ ns.length := by
  induction i generalizing ns k with
  | zero => exact hk
  | succ i ih =>
    rw [ech]
    have := ih (stepE i ns k).1 (stepE i ns k).2 (by rw [stepE_len]; exact (stepE_k i ns k hk).1)
    rwa [stepE_len] at this
theorem ech_lt {w i k : Nat} {ns : List Nat} (h : Lt (2 ^ w) ns) : Lt (2 ^ w) (ech i ns k).1 := by
  induction i generalizing ns k with
  | zero => exact h
  | succ i ih => rw [ech]; exact ih (stepE_lt h)
/-- Where all rows have their step nothing more is done. -/
theorem stepE_all (i : Nat) (ns : List Nat) : stepE i ns ns.length = (ns, ns.length) := by
  unfold stepE; rw [if_neg]; have := seek_ge i ns ns.length; omega
theorem ech_all (i : Nat) (ns : List Nat) : ech i ns ns.length = (ns, ns.length) := by
  induction i generalizing ns with
  | zero => rfl
  | succ i ih => rw [ech, stepE_all]; exact ih ns
theorem seek_here {i : Nat} {ns : List Nat} {m : Nat} (h : m < ns.length) (hd : hasD ns[m] i = true) : seek i ns m = m := by
  unfold seek
  rw [List.drop_eq_getElem_cons h, List.findIdx_cons, hd]; simp
theorem seek_next {i : Nat} {ns : List Nat} {m : Nat} (h : m < ns.length) (hd : hasD ns[m] i = false) : seek i ns (m + 1) = seek i ns m := by
  unfold seek
  rw [List.drop_eq_getElem_cons h, List.findIdx_cons, hd]; simp; omega
theorem seek_end {i : Nat} {ns : List Nat} : seek i ns ns.length = ns.length := by
  unfold seek; simp
theorem seek_drop (i : Nat) (ns : List Nat) (k : Nat) : seek i ns k = k + seek i (ns.drop k) 0 := by simp [seek]
/-- The two ways of exchanging two rows. -/
theorem swp_comm (ns : List Nat) (k m : Nat) : (ns.set k (gt ns m)).set m (gt ns k) = swp ns k m := by
  unfold swp
  by_cases h : k = m
  · subst h; simp
  · rw [List.set_comm _ _ h]
def echN (n : Nat) (ns : List Nat) : Nat := (ech n ns 0).2
def echR (n : Nat) (ns : List Nat) : List Nat := (ech n ns 0).1
theorem echN_le (n : Nat) (ns : List Nat) : echN n ns ≤ ns.length := ech_k n ns 0 (Nat.zero_le _)
theorem echR_len (n : Nat) (ns : List Nat) : (echR n ns).length = ns.length := ech_len n ns 0
theorem echR_lt {w n : Nat} {ns : List Nat} (h : Lt (2 ^ w) ns) : Lt (2 ^ w) (echR n ns) := ech_lt h
def prv (n : Int) (zs : List Int) : Bool := inB n 1 16 && (decide (1 ≤ zs.length) && (decide (zs.length ≤ 8) && (allIn zs 0 (2 ^ n.toNat - 1) && (echN n.toNat (toN zs) == zs.length))))
theorem lt_of_allIn {n : Nat} {zs : List Int} (h : allIn zs 0 (2 ^ n - 1) = true) : (∀ z ∈ zs, 0 ≤ z) ∧ Lt (2 ^ n) (toN zs) := by
  have h1 := (allIn_iff _ _ _).1 h
  refine ⟨fun z hz => (h1 z hz).1, fun x hx => ?_⟩
  obtain ⟨z, hz, rfl⟩ := List.mem_map.1 hx
  have h2 := h1 z hz
  have e : (2 : Int) ^ n = ((2 ^ n : Nat) : Int) := by simp
  rw [e] at h2; omega
theorem prv_parts {n : Int} {zs : List Int} (h : prv n zs = true) : ∃ m : Nat, n = m ∧ 1 ≤ m ∧ m ≤ 16 ∧ 1 ≤ zs.length ∧ zs.length ≤ 8 ∧ zs = ofN (toN zs) ∧ Lt (2 ^ m) (toN zs) ∧ echN m (toN zs) = zs.length := by
  simp only [prv, inB, Bool.and_eq_true, decide_eq_true_eq, beq_iff_eq] at h
  obtain ⟨⟨h1, h2⟩, h3, h4, h5, h6⟩ := h
  obtain ⟨m, rfl⟩ := Int.eq_ofNat_of_zero_le (show 0 ≤ n by omega)
  rw [Int.toNat_natCast] at h5 h6
  have h7 := lt_of_allIn h5
  exact ⟨m, rfl, by omega, by omega, h3, h4, (ofN_toN h7.1).symm, h7.2, h6⟩
end Go.Proofs.Ytgkciionmhoofaa
