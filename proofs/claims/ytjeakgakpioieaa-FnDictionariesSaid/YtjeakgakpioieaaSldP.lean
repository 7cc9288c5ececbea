/- SlidText: plain part: what both packages return. No conditions. -/
import Derived.Test.YtjeakgakpioieaaText
namespace Go.Proofs.Ytjeakgakpioieaa
open Go.RowKit
set_option maxRecDepth 100000
set_option linter.unusedVariables false
set_option linter.unusedSimpArgs false

def cpy : Nat → Nat → List Int → List Int
  | 0, _, out => out
  | k + 1, b, out => cpy k b (out ++ [out.getD (out.length - b) 0])
def okT (out : List Int) (a b : Int) : Bool := inB b 0 64 && (if b = 0 then a == 0 else inB a 1 out.length)
def okS (out : List Int) (a b : Int) : Bool := inB a 0 out.length && (inB b 0 64 && ((a == 0) == (b == 0)))
theorem okS_eq (out : List Int) (a b : Int) : okS out a b = okT out a b := by
  unfold okS okT inB
  by_cases hb : b = 0
  · subst hb
    by_cases ha : a = 0
    · subst ha; simp
    · simp [ha]
  · have hb' : (b == 0) = false := by simpa using hb
    rw [if_neg hb, hb']
    by_cases ha : a = 0
    · subst ha; simp
    · have ha' : (a == 0) = false := by simpa using ha
      rw [ha', Bool.eq_iff_iff]
      simp only [Bool.and_eq_true, decide_eq_true_eq, beq_self_eq_true, and_true]
      omega
def tr (zs : List Int) (k j : Nat) : Int := zs.getD (3 * k + j) 0
def sdStep (zs out : List Int) (k : Nat) : Option (List Int) :=
  if okT out (tr zs k 0) (tr zs k 1) = true then (if (cpy (tr zs k 1).toNat (tr zs k 0).toNat out ++ [tr zs k 2]).length ≤ 64 then some (cpy (tr zs k 1).toNat (tr zs k 0).toNat out ++ [tr zs k 2]) else none) else none
def sdGo (zs : List Int) : List Int → List Nat → Option (List Int)
  | out, [] => some out
  | out, k :: ks => (sdStep zs out k).bind fun o => sdGo zs o ks
def sdF (zs : List Int) (ks : List Nat) : Option (List Int) := sdGo zs [] ks
theorem sdGo_app (zs : List Int) (out : List Int) (ks js : List Nat) : sdGo zs out (ks ++ js) = (sdGo zs out ks).bind fun o => sdGo zs o js := by
  induction ks generalizing out with
  | nil => rfl
  | cons k ks ih =>
    rw [List.cons_append, sdGo, sdGo, Option.bind_assoc]
    congr 1; funext o; exact ih o
theorem sdF_snoc (zs : List Int) (ks : List Nat) (k : Nat) : sdF zs (ks ++ [k]) = (sdF zs ks).bind fun o => sdStep zs o k := by
  rw [sdF, sdGo_app]; unfold sdF
  congr 1; funext o; rw [sdGo]; cases sdStep zs o k <;> rfl
theorem cpy_len (k b : Nat) (out : List Int) : (cpy k b out).length = out.length + k := by
  induction k generalizing out with
  | zero => rfl
  | succ k ih => rw [cpy, ih, List.length_append]; simp; omega
theorem cpy_mem (k b : Nat) (out : List Int) : ∀ x ∈ out, x ∈ cpy k b out := by
  induction k generalizing out with
  | zero => exact fun x h => h
  | succ k ih => exact fun x h => ih _ x (List.mem_append_left _ h)
theorem cpy_all (P : Int → Prop) (k b : Nat) (out : List Int) (h : ∀ x ∈ out, P x) (h0 : P 0 ∨ (k = 0 ∨ (1 ≤ b ∧ b ≤ out.length))) : ∀ x ∈ cpy k b out, P x := by
  induction k generalizing out with
  | zero => exact h
  | succ k ih =>
    refine ih _ ?_ ?_
    · intro x hx
      rcases List.mem_append.1 hx with hx | hx
      · exact h x hx
      · simp only [List.mem_cons, List.not_mem_nil, or_false] at hx
        subst hx
        by_cases hb : out.length - b < out.length
        · rw [List.getD_eq_getElem?_getD, List.getElem?_eq_getElem hb]; exact h _ (List.getElem_mem hb)
        · rw [List.getD_eq_getElem?_getD, List.getElem?_eq_none (by omega)]
          rcases h0 with h0 | h0
          · exact h0
          · omega
    · rcases h0 with h0 | h0
      · exact .inl h0
      · right; right; rw [List.length_append]; simp; omega
theorem sdStep_some {zs out o : List Int} {k : Nat} (h : sdStep zs out k = some o) : okT out (tr zs k 0) (tr zs k 1) = true ∧ o = cpy (tr zs k 1).toNat (tr zs k 0).toNat out ++ [tr zs k 2] ∧ o.length ≤ 64 := by
  unfold sdStep at h
  split at h
  · split at h
    · injection h with h; subst h; exact ⟨‹_›, rfl, ‹_›⟩
    · cases h
  · cases h
theorem sdGo_len {zs out r : List Int} {ks : List Nat} (h : sdGo zs out ks = some r) : out.length + ks.length ≤ r.length ∧ (ks ≠ [] → r.length ≤ 64) ∧ (∀ x ∈ out, x ∈ r) := by
  induction ks generalizing out with
  | nil => injection h with h; subst h; exact ⟨by simp, fun h => absurd rfl h, fun x h => h⟩
  | cons k ks ih =>
    rw [sdGo, Option.bind_eq_some_iff] at h
    obtain ⟨o, ho, h⟩ := h
    obtain ⟨h1, h2, h3⟩ := sdStep_some ho
    have hi := ih h
    have hl : o.length = out.length + (tr zs k 1).toNat + 1 := by rw [h2, List.length_append, cpy_len]; rfl
    refine ⟨by rw [List.length_cons]; omega, fun _ => ?_, fun x hx => hi.2.2 x (by rw [h2]; exact List.mem_append_left _ (cpy_mem _ _ _ x hx))⟩
    cases ks with
    | nil => injection h with h; subst h; exact h3
    | cons j js => exact hi.2.1 (by simp)
theorem okT_parts {out : List Int} {a b : Int} (h : okT out a b = true) : 0 ≤ b ∧ b ≤ 64 ∧ ((b = 0 ∧ a = 0) ∨ (0 < b ∧ 1 ≤ a ∧ a ≤ out.length)) := by
  unfold okT inB at h
  by_cases hb : b = 0
  · subst hb; simp at h; exact ⟨by omega, by omega, .inl ⟨rfl, h⟩⟩
  · simp [hb] at h; exact ⟨by omega, by omega, .inr ⟨by omega, by omega, by omega⟩⟩
theorem step_all {zs out : List Int} {k : Nat} {P : Int → Prop} (h : ∀ x ∈ out, P x) (hok : okT out (tr zs k 0) (tr zs k 1) = true) : ∀ x ∈ cpy (tr zs k 1).toNat (tr zs k 0).toNat out, P x := by
  refine cpy_all P _ _ _ h (.inr ?_)
  obtain ⟨h1, h2, h3 | h3⟩ := okT_parts hok
  · left; omega
  · right; omega
theorem sdGo_i64 {zs out r : List Int} {ks : List Nat} (hz : AllI64 zs) (ho : AllI64 out) (h : sdGo zs out ks = some r) : AllI64 r := by
  induction ks generalizing out with
  | nil => injection h with h; subst h; exact ho
  | cons k ks ih =>
    rw [sdGo, Option.bind_eq_some_iff] at h
    obtain ⟨o, hso, h⟩ := h
    obtain ⟨h1, h2, h3⟩ := sdStep_some hso
    refine ih ?_ h
    rw [h2]
    intro x hx
    rcases List.mem_append.1 hx with hx | hx
    · exact step_all ho h1 x hx
    · simp only [List.mem_cons, List.not_mem_nil, or_false] at hx
      subst hx
      unfold tr
      by_cases hk : 3 * k + 2 < zs.length
      · rw [List.getD_eq_getElem?_getD, List.getElem?_eq_getElem hk]; exact hz _ (List.getElem_mem hk)
      · rw [List.getD_eq_getElem?_getD, List.getElem?_eq_none (by omega)]; constructor <;> decide
/-- The reference's steps: letters are looked at at once. -/
def sgStep (n : Int) (zs out : List Int) (k : Nat) : Option (List Int) := if inB (tr zs k 2) 0 (n - 1) = true then sdStep zs out k else none
def sgGo (n : Int) (zs : List Int) : List Int → List Nat → Option (List Int)
  | out, [] => some out
  | out, k :: ks => (sgStep n zs out k).bind fun o => sgGo n zs o ks
def sgF (n : Int) (zs : List Int) (ks : List Nat) : Option (List Int) := sgGo n zs [] ks
theorem sgGo_app (n : Int) (zs : List Int) (out : List Int) (ks js : List Nat) : sgGo n zs out (ks ++ js) = (sgGo n zs out ks).bind fun o => sgGo n zs o js := by
  induction ks generalizing out with
  | nil => rfl
  | cons k ks ih =>
    rw [List.cons_append, sgGo, sgGo, Option.bind_assoc]
    congr 1; funext o; exact ih o
theorem sgF_snoc (n : Int) (zs : List Int) (ks : List Nat) (k : Nat) : sgF n zs (ks ++ [k]) = (sgF n zs ks).bind fun o => sgStep n zs o k := by
  rw [sgF, sgGo_app]; unfold sgF
  congr 1; funext o; rw [sgGo]; cases sgStep n zs o k <;> rfl
theorem sgGo_eq (n : Int) (zs out : List Int) (ks : List Nat) (h : allIn out 0 (n - 1) = true) : sgGo n zs out ks = (sdGo zs out ks).bind fun r => if allIn r 0 (n - 1) = true then some r else none := by
  induction ks generalizing out with
  | nil => simp [sgGo, sdGo, h]
  | cons k ks ih =>
    rw [sgGo, sdGo, sgStep]
    by_cases hc : inB (tr zs k 2) 0 (n - 1) = true
    · rw [if_pos hc, Option.bind_assoc]
      cases hs : sdStep zs out k with
      | none => rfl
      | some o =>
        obtain ⟨h1, h2, h3⟩ := sdStep_some hs
        simp only [Option.bind_some]
        refine ih o ?_
        rw [h2, allIn_iff]
        intro x hx
        rcases List.mem_append.1 hx with hx | hx
        · exact step_all (P := fun x => 0 ≤ x ∧ x ≤ n - 1) ((allIn_iff _ _ _).1 h) h1 x hx
        · simp only [List.mem_cons, List.not_mem_nil, or_false] at hx
          subst hx
          have := inB_eq hc; simpa using this
    · rw [if_neg hc]
      cases hr : (sdStep zs out k).bind fun o => sdGo zs o ks with
      | none => rfl
      | some r =>
        obtain ⟨o, ho, hg⟩ := Option.bind_eq_some_iff.1 hr
        obtain ⟨h1, h2, h3⟩ := sdStep_some ho
        have hm := (sdGo_len hg).2.2 (tr zs k 2) (by rw [h2]; simp)
        simp only [Option.bind_none, Option.bind_some]
        rw [if_neg]
        intro ha
        have := (allIn_iff _ _ _).1 ha _ hm
        exact hc (by unfold inB; simp; omega)
def sdOk0 (zs : List Int) (n : Int) : Bool := sgn n && decide (zs.length % 3 = 0)
def sdO (zs : List Int) (n : Int) : Option (List Int) := if sdOk0 zs n = true then (sdF zs (List.range (zs.length / 3))).bind fun r => if txt r n = true then some r else none else none
def sdZ (zs : List Int) (n : Int) : List Int := (sdO zs n).getD []
def sdOk (zs : List Int) (n : Int) : Bool := (sdO zs n).isSome
theorem sdZ_len (zs : List Int) (n : Int) : (sdZ zs n).length ≤ 16777216 := by
  unfold sdZ
  cases h : sdO zs n with
  | none => simp
  | some r =>
    unfold sdO at h
    split at h
    · obtain ⟨r', _, h⟩ := Option.bind_eq_some_iff.1 h
      split at h
      · injection h with h; subst h
        have ht : txt r' n = true := by assumption
        simp only [txt, Bool.and_eq_true, decide_eq_true_eq] at ht
        simp; omega
      · cases h
    · cases h
theorem sd_none {zs : List Int} {n : Int} (h : sdO zs n = none) : sdZ zs n = [] ∧ sdOk zs n = false := by unfold sdZ sdOk; rw [h]; exact ⟨rfl, rfl⟩
theorem sd_some {zs r : List Int} {n : Int} (h : sdO zs n = some r) : sdZ zs n = r ∧ sdOk zs n = true := by unfold sdZ sdOk; rw [h]; exact ⟨rfl, rfl⟩
theorem sd_i64 {zs r : List Int} {n : Int} (hz : AllI64 zs) (h : sdO zs n = some r) : AllI64 r := by
  unfold sdO at h
  split at h
  · obtain ⟨r', hr, h⟩ := Option.bind_eq_some_iff.1 h
    split at h
    · injection h with h; subst h
      exact sdGo_i64 hz (fun x hx => by cases hx) hr
    · cases h
  · cases h
/-- What the reference does is the same. -/
theorem sg_eq (zs : List Int) (n : Int) (h : sdOk0 zs n = true) : sdO zs n = if zs.length ≤ 192 then sgF n zs (List.range (zs.length / 3)) else none := by
  unfold sdO
  rw [if_pos h]
  simp only [sdOk0, Bool.and_eq_true, decide_eq_true_eq] at h
  have hs := h.1
  unfold sgF
  rw [sgGo_eq n zs [] _ rfl]
  unfold sdF
  cases hr : sdGo zs [] (List.range (zs.length / 3)) with
  | none => simp
  | some r =>
    obtain ⟨h1, h2, -⟩ := sdGo_len hr
    simp only [List.length_nil, List.length_range, Nat.zero_add] at h1
    have hr64 : r.length ≤ 64 := by
      by_cases h0 : zs.length / 3 = 0
      · rw [h0] at hr; injection hr with hr; subst hr; simp
      · exact h2 (by intro e; have := congrArg List.length e; simp at this; omega)
    rw [if_pos (by omega)]
    simp only [Option.bind_some, txt, hs, decide_eq_true hr64, Bool.true_and]
theorem sdF_none_le {zs : List Int} {k q : Nat} (hk : k ≤ q) (h : sdF zs (List.range k) = none) : sdF zs (List.range q) = none := by
  obtain ⟨d, rfl⟩ : ∃ d, q = k + d := ⟨q - k, by omega⟩
  rw [List.range_add, sdF, sdGo_app]
  unfold sdF at h
  rw [h]; rfl
theorem sgF_none_le {n : Int} {zs : List Int} {k q : Nat} (hk : k ≤ q) (h : sgF n zs (List.range k) = none) : sgF n zs (List.range q) = none := by
  obtain ⟨d, rfl⟩ : ∃ d, q = k + d := ⟨q - k, by omega⟩
  rw [List.range_add, sgF, sgGo_app]
  unfold sgF at h
  rw [h]; rfl
end Go.Proofs.Ytjeakgakpioieaa
