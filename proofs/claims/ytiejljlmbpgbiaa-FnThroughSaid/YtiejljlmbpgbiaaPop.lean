/- A region that draws its order and whose last operation waits for all others: the others in whatever order, then the last one. Conditions: what each theorem names. -/
import Derived.Deep.RegionHeld3
import Derived.Sort.QuietIn
import Derived.TacticsIn
import Derived.RangeFuncCalls
namespace Go.Proofs.Ytiejljlmbpgbiaa
open Go.RowKit
set_option maxRecDepth 100000
set_option linter.unusedVariables false
set_option linter.unusedSimpArgs false

section
variable {P : Program} {ops : Array Oper} {Q : Exit → Act → World → Prop} {md : Region.Mode}

/-- What is to come up ahead of those in l, k steps back. -/
def ahd (md : Region.Mode) (ops : Array Oper) : Nat → List Nat → List Nat
  | 0, l => l
  | k + 1, l => ahd md ops k (l ++ l.flatMap fun j => match ops[j]? with
    | some o => o.after.toList.filterMap fun e => if Region.binds md e = true then some e.on else none
    | none => [])
def guardOk (n : Nat) (o : Oper) : Bool := match o.guard with | some (g, _) => decide (g < n) | none => true
/-- The last operation waits for all others; each waits only for earlier ones; no guard looks at the last. -/
def lastB (md : Region.Mode) (ops : Array Oper) : Bool :=
  decide (0 < ops.size) &&
  (List.range ops.size).all (fun j => match ops[j]? with
    | some o => o.after.all (fun e => !Region.binds md e || decide (e.on < j)) && guardOk (ops.size - 1) o
    | none => true) &&
  (List.range (ops.size - 1)).all fun j => (ahd md ops ops.size [ops.size - 1]).contains j
/-- Whoever has come up: all that it waits for has come up. -/
def Shd (md : Region.Mode) (ops : Array Oper) (listed : Array Bool) : Prop :=
  ∀ j o, ops[j]? = some o → listed.getD j false = true → ∀ e ∈ o.after, Region.binds md e = true → listed.getD e.on false = true

theorem ahd_all {listed : Array Bool} (hc : Shd md ops listed) : ∀ (k : Nat) (l : List Nat), (∀ j ∈ l, listed.getD j false = true) → ∀ j ∈ ahd md ops k l, listed.getD j false = true
  | 0, _, h => h
  | k + 1, l, h => by
    refine ahd_all hc k _ fun j hj => ?_
    rcases List.mem_append.1 hj with hj | hj
    · exact h j hj
    · obtain ⟨i, hi, hj⟩ := List.mem_flatMap.1 hj
      cases ho : ops[i]? with
      | none => simp [ho] at hj
      | some o =>
        simp only [ho, List.mem_filterMap] at hj
        obtain ⟨e, he, hj⟩ := hj
        split at hj
        · rename_i hb
          simp only [Option.some.injEq] at hj
          subst hj
          exact hc i o ho (h i hi) e (by simpa using he) hb
        · cases hj

theorem lastB_parts (hB : lastB md ops = true) : 0 < ops.size ∧ (∀ j o, ops[j]? = some o → (∀ e ∈ o.after, Region.binds md e = true → e.on < j) ∧ guardOk (ops.size - 1) o = true) ∧ ∀ j, j < ops.size - 1 → j ∈ ahd md ops ops.size [ops.size - 1] := by
  simp only [lastB, Bool.and_eq_true, decide_eq_true_eq, List.all_eq_true, List.mem_range, List.contains_iff_mem] at hB
  obtain ⟨⟨h1, h2⟩, h3⟩ := hB
  refine ⟨h1, fun j o ho => ?_, h3⟩
  have hj : j < ops.size := (Array.getElem?_eq_some_iff.1 ho).1
  have h := h2 j hj
  simp only [ho, Bool.and_eq_true, Array.all_eq_true_iff_forall_mem, Bool.or_eq_true, Bool.not_eq_true', decide_eq_true_eq] at h
  exact ⟨fun e he hb => (h.1 e he).resolve_left (by simp [hb]), h.2⟩
theorem pop_get (i : Nat) (hi : i < ops.size - 1) : ops.pop[i]? = ops[i]? := by
  rw [Array.getElem?_pop, if_pos hi]
theorem push_getD {listed : Array Bool} (i : Nat) (d : Bool) (hi : i < listed.size) : (listed.push false).getD i d = listed.getD i d := by
  simp [Array.getD_eq_getD_getElem?, Array.getElem?_push, Nat.ne_of_lt hi]
theorem push_getD_last {listed : Array Bool} (d : Bool) : (listed.push false).getD listed.size d = false := by
  simp [Array.getD_eq_getD_getElem?]
theorem push_set {listed : Array Bool} (i : Nat) (hi : i < listed.size) : (listed.push false).setIfInBounds i true = (listed.setIfInBounds i true).push false := by
  apply Array.ext_getElem?
  intro j
  simp only [Array.getElem?_setIfInBounds, Array.getElem?_push, Array.size_push, Array.size_setIfInBounds]
  by_cases hij : i = j
  · subst hij
    simp [hi, Nat.ne_of_lt hi, Nat.lt_succ_of_lt hi]
  · simp [hij]
theorem ready_lt {listed : Array Bool} {i : Nat} (h : i ∈ Region.ready md ops listed) : i < ops.size := by
  obtain ⟨_, o, ho, _⟩ := mem_ready.1 h
  exact (Array.getElem?_eq_some_iff.1 ho).1
theorem ready_pop (hB : lastB md ops = true) {listed : Array Bool} (hs : listed.size = ops.size - 1) {i : Nat} (hi : i < ops.size - 1) :
    i ∈ Region.ready md ops (listed.push false) ↔ i ∈ Region.ready md ops.pop listed := by
  obtain ⟨h0, h1, _⟩ := lastB_parts hB
  rw [mem_ready, mem_ready, pop_get i hi, push_getD i true (by omega)]
  constructor
  · rintro ⟨a, o, ho, hall⟩
    refine ⟨a, o, ho, fun e he hb => ?_⟩
    have hlt := (h1 i o ho).1 e he hb
    have := hall e he hb
    rwa [push_getD e.on false (by omega)] at this
  · rintro ⟨a, o, ho, hall⟩
    refine ⟨a, o, ho, fun e he hb => ?_⟩
    have hlt := (h1 i o ho).1 e he hb
    rw [push_getD e.on false (by omega)]
    exact hall e he hb
theorem ready_nil (hB : lastB md ops = true) {listed : Array Bool} (hs : listed.size = ops.size - 1) (hr : Region.ready md ops.pop listed = []) : ∀ j, j < ops.size - 1 → listed.getD j false = true := by
  obtain ⟨h0, h1, _⟩ := lastB_parts hB
  intro j
  induction j using Nat.strongRecOn with
  | _ j ih =>
    intro hj
    refine Classical.byContradiction fun hn => ?_
    have hjn : j < listed.size := by omega
    have hf : listed.getD j true = false := by
      simp [Array.getD_eq_getD_getElem?, Array.getElem?_eq_getElem hjn] at hn ⊢
      exact hn
    have hjo : j < ops.size := by omega
    have : j ∈ Region.ready md ops.pop listed := by
      rw [mem_ready, pop_get j hj]
      refine ⟨hf, ops[j], by simp [hjo], fun e he hb => ?_⟩
      have hlt := (h1 j ops[j] (by simp [hjo])).1 e he hb
      exact ih e.on hlt (by omega)
    rw [hr] at this; cases this
theorem ready_last (hB : lastB md ops = true) {listed : Array Bool} (hs : listed.size = ops.size - 1) (hall : ∀ j, j < ops.size - 1 → listed.getD j false = true) : ops.size - 1 ∈ Region.ready md ops (listed.push false) := by
  obtain ⟨h0, h1, _⟩ := lastB_parts hB
  have hlt : ops.size - 1 < ops.size := by omega
  rw [mem_ready]
  refine ⟨by rw [← hs]; exact push_getD_last true, ops[ops.size - 1], by simp [hlt], fun e he hb => ?_⟩
  have hl := (h1 _ _ (show ops[ops.size - 1]? = some ops[ops.size - 1] by simp [hlt])).1 e he hb
  rw [push_getD e.on false (by omega)]
  exact hall _ (by omega)
theorem last_all (hB : lastB md ops = true) {listed : Array Bool} (hs : listed.size = ops.size - 1) (hc : Shd md ops (listed.push false)) (hr : ops.size - 1 ∈ Region.ready md ops (listed.push false)) : ∀ j, j < ops.size - 1 → listed.getD j false = true := by
  obtain ⟨h0, h1, h2⟩ := lastB_parts hB
  obtain ⟨_, o, ho, hall⟩ := mem_ready.1 hr
  intro j hj
  -- all that comes ahead of the last: one step by its readiness, the rest by 'Shd'
  have hmem := h2 j hj
  obtain ⟨m, hm⟩ : ∃ m, ops.size = m + 1 := ⟨ops.size - 1, by omega⟩
  have key : ∀ (k : Nat) (l : List Nat), (∀ i ∈ l, i = ops.size - 1 ∨ (listed.push false).getD i false = true) → ∀ i ∈ ahd md ops k l, i = ops.size - 1 ∨ (listed.push false).getD i false = true := by
    intro k
    induction k with
    | zero => intro l h; exact h
    | succ k ih =>
      intro l h
      refine ih _ fun i hi => ?_
      rcases List.mem_append.1 hi with hi | hi
      · exact h i hi
      · obtain ⟨q, hq, hi⟩ := List.mem_flatMap.1 hi
        cases hoq : ops[q]? with
        | none => simp [hoq] at hi
        | some oq =>
          simp only [hoq, List.mem_filterMap] at hi
          obtain ⟨e, he, hi⟩ := hi
          split at hi
          · rename_i hb
            simp only [Option.some.injEq] at hi
            subst hi
            rcases h q hq with rfl | hq'
            · rw [ho] at hoq; obtain rfl := Option.some.inj hoq
              exact .inr (hall e (by simpa using he) hb)
            · exact .inr (hc q oq hoq hq' e (by simpa using he) hb)
          · cases hi
  rcases key ops.size [ops.size - 1] (by simp) j hmem with h | h
  · omega
  · rwa [push_getD j false (by omega)] at h
theorem shd_start (md : Region.Mode) (ops : Array Oper) (n : Nat) : Shd md ops (Array.replicate n false) := by
  intro j o _ h
  simp [Array.getD_eq_getD_getElem?, Array.getElem?_replicate] at h
  split at h <;> simp at h
theorem shd_step {listed : Array Bool} {i : Nat} (hc : Shd md ops listed) (hi : i ∈ Region.ready md ops listed) : Shd md ops (listed.setIfInBounds i true) := by
  intro j o ho hj e he hb
  by_cases hij : i = j
  · subst hij
    obtain ⟨_, o', ho', hall⟩ := mem_ready.1 hi
    rw [ho] at ho'; obtain rfl := Option.some.inj ho'
    exact getD_set_true (hall e he hb)
  · rw [getD_set_ne false hij] at hj
    exact getD_set_true (hc j o ho hj e he hb)
theorem yielded_pop (t : Array Value) (g : Nat) (hg : g < ops.size - 1) : yielded ops.pop t g = yielded ops t g := by
  unfold yielded
  rw [pop_get g hg]
theorem wanted_pop {o : Oper} (hg : guardOk (ops.size - 1) o = true) (t : Array Value) : Region.wanted o (yielded ops.pop t) = Region.wanted o (yielded ops t) := by
  unfold Region.wanted
  unfold guardOk at hg
  cases ho : o.guard with
  | none => rfl
  | some p =>
    obtain ⟨g, want⟩ := p
    simp only [ho, decide_eq_true_eq] at hg
    simp only [yielded_pop t g hg]

/-- Behind the others: the last one. -/
def PopQ (P : Program) (ops : Array Oper) (Q : Exit → Act → World → Prop) (o : Oper) : Exit → Act → World → Prop
  | .normal, a, w => wpList P ops Q [o] a w
  | .ret, a, w => Q .ret a w
  | .exit c, a, w => Q (.exit c) a w
  | .goto c, a, w => Q (.goto c) a w
  | .panic c, a, w => Q (.panic c) a w
  | .outgrown, a, w => Q .outgrown a w
theorem upon_pop {o o' : Oper} {a : Act} {K : Act → World → Prop} {r : Result Next} (h : o'.upon P a K (PopQ P ops Q o) r) : o'.upon P a K Q r := by
  cases r with
  | ok x w' =>
    cases x <;> simp only [Oper.upon] at h ⊢ <;> first | exact h | exact Calls.mono h (fun e w'' he => by cases e <;> exact he) | exact Rows.mono h (fun _ _ he => he)
  | halt x w' => cases x <;> simp only [Oper.upon] at h ⊢ <;> exact h
theorem wpOp_pop (hB : lastB md ops = true) {o : Oper} {i : Nat} (hi : i < ops.size - 1) {K : Act → World → Prop} {a : Act} {w : World} (h : wpOp P ops.pop (PopQ P ops Q o) i K a w) : wpOp P ops Q i K a w := by
  obtain ⟨h0, h1, _⟩ := lastB_parts hB
  unfold wpOp at *
  rw [pop_get i hi] at h
  split
  · rename_i hn; simp only [hn] at h; exact h
  · rename_i oi ho
    simp only [ho] at h
    rw [wanted_pop (h1 i oi ho).2] at h
    split
    · rename_i hw
      simp only [hw, if_true] at h
      rcases h with h | ⟨hasks, a', w', hl⟩
      · exact .inl (upon_pop h)
      · exact .inr ⟨hasks, a', w', hl⟩
    · rename_i hw
      simp only [hw] at h
      exact h
theorem wpAny_allup {listed : Array Bool} {a : Act} {w : World} (h : Q .normal a w) (hr : Region.ready md ops listed = []) : ∀ fuel, wpAny P md ops Q fuel listed a w
  | 0 => ⟨hr, h⟩
  | _ + 1 => ⟨fun _ => h, by rw [hr]; simp⟩
theorem allup_nil {listed : Array Bool} (hs : listed.size = ops.size - 1) (hall : ∀ j, j < ops.size - 1 → listed.getD j false = true) : Region.ready md ops ((listed.push false).setIfInBounds (ops.size - 1) true) = [] := by
  refine List.eq_nil_iff_forall_not_mem.2 fun j hj => ?_
  have hlt := ready_lt hj
  have h0 := (mem_ready.1 hj).1
  by_cases hjn : j = ops.size - 1
  · subst hjn
    rw [← hs] at h0
    simp [Array.getD_eq_getD_getElem?, Array.getElem?_setIfInBounds] at h0
  · rw [getD_set_ne true (Ne.symm hjn), push_getD j true (by omega)] at h0
    have := hall j (by omega)
    have hjs : j < listed.size := by omega
    simp [Array.getD_eq_getD_getElem?, Array.getElem?_eq_getElem hjs] at this h0
    rw [this] at h0; cases h0
theorem wpOp_last {o : Oper} (ho : ops[ops.size - 1]? = some o) {K : Act → World → Prop} {a : Act} {w : World} (hK : ∀ a w, Q .normal a w → K a w) (h : wpList P ops Q [o] a w) : wpOp P ops Q (ops.size - 1) K a w := by
  refine wpOp_mono hK ?_
  unfold wpOp
  simp only [ho]
  exact h
theorem wpAny_pop (hB : lastB md ops = true) {o : Oper} (ho : ops[ops.size - 1]? = some o) : ∀ (fuel : Nat) (listed : Array Bool) (a : Act) (w : World), listed.size = ops.size - 1 → Shd md ops (listed.push false) →
    wpAny P md ops.pop (PopQ P ops Q o) fuel listed a w → wpAny P md ops Q (fuel + 1) (listed.push false) a w := by
  intro fuel
  induction fuel with
  | zero =>
    intro listed a w hs hc h
    obtain ⟨hr, hq⟩ := h
    have hall := ready_nil hB hs hr
    have hlast := ready_last hB hs hall
    refine ⟨(fun h0 => by rw [h0] at hlast; cases hlast), fun i hi => ?_⟩
    have hilt := ready_lt hi
    by_cases hin : i = ops.size - 1
    · subst hin
      exact wpOp_last ho (fun a w hn => wpAny_allup hn (allup_nil hs hall) 0) hq
    · rw [ready_pop hB hs (by omega), hr] at hi; cases hi
  | succ fuel ih =>
    intro listed a w hs hc h
    obtain ⟨hn, hi'⟩ := h
    refine ⟨fun h0 => ?_, fun i hi => ?_⟩
    · exfalso
      have hr : Region.ready md ops.pop listed = [] := List.eq_nil_iff_forall_not_mem.2 fun j hj => by
        have hlt := ready_lt hj
        rw [Array.size_pop] at hlt
        have := (ready_pop hB hs hlt).2 hj
        rw [h0] at this; cases this
      have := ready_last hB hs (ready_nil hB hs hr)
      rw [h0] at this; cases this
    · have hilt := ready_lt hi
      by_cases hin : i = ops.size - 1
      · subst hin
        have hall := last_all hB hs hc hi
        have hr : Region.ready md ops.pop listed = [] := List.eq_nil_iff_forall_not_mem.2 fun j hj => by
          have hlt := ready_lt hj
          rw [Array.size_pop] at hlt
          have h0 := (mem_ready.1 hj).1
          have := hall j hlt
          have hjs : j < listed.size := by omega
          simp [Array.getD_eq_getD_getElem?, Array.getElem?_eq_getElem hjs] at this h0
          rw [this] at h0; cases h0
        exact wpOp_last ho (fun a w hn => wpAny_allup hn (allup_nil hs hall) (fuel + 1)) (hn hr)
      · have hin' : i < ops.size - 1 := by omega
        refine wpOp_pop hB hin' (wpOp_mono (fun a w hh => ?_) (hi' i ((ready_pop hB hs hin').1 hi)))
        rw [push_set i (by omega)]
        refine ih _ a w (by rw [Array.size_setIfInBounds]; exact hs) ?_ hh
        rw [← push_set i (by omega)]
        exact shd_step hc hi
/-- Behind the others: those of a list, one after another. -/
def TailQ (P : Program) (ops : Array Oper) (Q : Exit → Act → World → Prop) (t : List Oper) : Exit → Act → World → Prop
  | .normal, a, w => wpList P ops Q t a w
  | .ret, a, w => Q .ret a w
  | .exit c, a, w => Q (.exit c) a w
  | .goto c, a, w => Q (.goto c) a w
  | .panic c, a, w => Q (.panic c) a w
  | .outgrown, a, w => Q .outgrown a w
theorem upon_mono {Q Q' : Exit → Act → World → Prop} (hp : ∀ c a w, Q (.panic c) a w → Q' (.panic c) a w) (ho : ∀ a w, Q .outgrown a w → Q' .outgrown a w) {o : Oper} {a : Act} {K : Act → World → Prop} {r : Result Next} (h : o.upon P a K Q r) : o.upon P a K Q' r := by
  cases r with
  | ok x w' =>
    cases x <;> simp only [Oper.upon] at h ⊢ <;> first | exact h | exact Calls.mono h (fun e w'' he => by cases e <;> first | exact he | exact hp _ _ _ he | (obtain ⟨a', w', hl⟩ := he; exact ⟨a', w', ho _ _ hl⟩)) | exact Rows.mono h (fun _ _ he => he)
  | halt x w' => cases x <;> simp only [Oper.upon] at h ⊢ <;> first | exact h | exact hp _ _ _ h
theorem wpOp_post {Q Q' : Exit → Act → World → Prop} (hq : ∀ e a w, Q e a w → Q' e a w) {i : Nat} {K : Act → World → Prop} {a : Act} {w : World} (h : wpOp P ops Q i K a w) : wpOp P ops Q' i K a w := by
  unfold wpOp at *
  split
  · rename_i hn; simp only [hn] at h; exact h
  · rename_i oi ho
    simp only [ho] at h
    split
    · rename_i hw
      simp only [hw, if_true] at h
      rcases h with h | ⟨hasks, a', w', hl⟩
      · exact .inl (upon_mono (fun c => hq _) (hq _) h)
      · exact .inr ⟨hasks, a', w', hq _ _ _ hl⟩
    · rename_i hw
      simp only [hw] at h
      exact h
theorem wpAny_post {Q Q' : Exit → Act → World → Prop} (hq : ∀ e a w, Q e a w → Q' e a w) : ∀ (fuel : Nat) (listed : Array Bool) (a : Act) (w : World), wpAny P md ops Q fuel listed a w → wpAny P md ops Q' fuel listed a w
  | 0, _, _, _, h => ⟨h.1, hq _ _ _ h.2⟩
  | fuel + 1, _, _, _, h => ⟨fun h0 => hq _ _ _ (h.1 h0), fun i hi => wpOp_post hq (wpOp_mono (fun a' w' h' => wpAny_post hq fuel _ a' w' h') (h.2 i hi))⟩
/-- Each of t waits for all that stand ahead of it. -/
def tailB (md : Region.Mode) : List Oper → List Oper → Bool
  | _, [] => true
  | l, o :: r => lastB md (l ++ [o]).toArray && tailB md (l ++ [o]) r
theorem yielded_app (l r : List Oper) (o : Oper) (t : Array Value) (g : Nat) (hg : g < l.length) : yielded (l ++ o :: r).toArray t g = yielded (l ++ [o]).toArray t g := by
  unfold yielded
  simp [List.getElem?_append_left hg]
theorem wanted_app (l r : List Oper) (o : Oper) (t : Array Value) (hg : guardOk l.length o = true) : Region.wanted o (yielded (l ++ o :: r).toArray t) = Region.wanted o (yielded (l ++ [o]).toArray t) := by
  unfold Region.wanted
  unfold guardOk at hg
  cases ho : o.guard with
  | none => rfl
  | some p =>
    obtain ⟨g, want⟩ := p
    simp only [ho, decide_eq_true_eq] at hg
    simp only [yielded_app l r o t g hg]
theorem wpAny_tail : ∀ (t l : List Oper), tailB md l t = true → ∀ (fuel : Nat) (a : Act) (w : World),
    wpAny P md l.toArray (TailQ P (l ++ t).toArray Q t) fuel (Array.replicate l.length false) a w → wpAny P md (l ++ t).toArray Q (fuel + t.length) (Array.replicate (l ++ t).length false) a w
  | [], l, _, fuel, a, w, h => by
    simp only [List.append_nil, List.length_nil, Nat.add_zero] at h ⊢
    exact wpAny_post (fun e a w hq => by cases e <;> exact hq) _ _ _ _ h
  | o :: r, l, hB, fuel, a, w, h => by
    simp only [tailB, Bool.and_eq_true] at hB
    obtain ⟨hB1, hB2⟩ := hB
    have hpop : ((l ++ [o]).toArray).pop = l.toArray := by simp
    have hsz : ((l ++ [o]).toArray).size - 1 = l.length := by simp
    have ho : ((l ++ [o]).toArray)[((l ++ [o]).toArray).size - 1]? = some o := by simp
    have hg : guardOk l.length o = true := by
      have := ((lastB_parts hB1).2.1 _ o ho).2
      rwa [hsz] at this
    have e1 : l ++ o :: r = (l ++ [o]) ++ r := by simp
    have h1 : wpAny P md ((l ++ [o]).toArray).pop (PopQ P (l ++ [o]).toArray (TailQ P (l ++ o :: r).toArray Q r) o) fuel (Array.replicate l.length false) a w := by
      rw [hpop]
      refine wpAny_post (fun e a w hq => ?_) _ _ _ _ h
      cases e <;> try exact hq
      simp only [TailQ, PopQ, wpList] at hq ⊢
      rw [wanted_app l r o a.tmps hg] at hq
      split
      · rename_i hw
        simp only [hw, if_true] at hq
        rcases hq with hq | ⟨hasks, a', w', hl⟩
        · exact .inl (upon_mono (fun _ _ _ h => h) (fun _ _ h => h) hq)
        · exact .inr ⟨hasks, a', w', hl⟩
      · rename_i hw
        simp only [hw] at hq
        exact hq
    have h2 := wpAny_pop (P := P) hB1 ho fuel (Array.replicate l.length false) a w (by simp) (by rw [← Array.replicate_succ]; exact shd_start _ _ _) h1
    rw [← Array.replicate_succ] at h2
    have e2 : (l ++ [o]).length = l.length + 1 := by simp
    rw [← e2] at h2
    have h3 := wpAny_tail r (l ++ [o]) hB2 (fuel + 1) a w (by rw [← e1]; exact h2)
    rw [← e1, show fuel + 1 + r.length = fuel + (o :: r).length by simp; omega] at h3
    exact h3
/-- A region that draws its order, under S: all but the last ones in whatever order, then these, one after another. m: how many stand ahead of them. -/
theorem wp_region_held_tail (m : Nat) {S : World → Prop} {id : Nat} {a : Act} {w : World} {os : List Oper} (hm : P.follows .mixedOrders = true) (hB : tailB .any (os.take m) (os.drop m) = true) (hS : S w.drew)
    (h : S w.drew → wpAnyH P .any (os.take m).toArray (TailQ P os.toArray Q (os.drop m)) S (os.take m).length (Array.replicate (os.take m).length false) a w.drew) : (Code.region id os.toArray true).wp P Q a w := by
  refine wp_region_any hm ?_
  have h1 := wpAny_tail (P := P) (Q := Q) (md := .any) (os.drop m) (os.take m) hB (os.take m).length a w.drew (by rw [List.take_append_drop]; exact wpAny_of_held _ _ _ _ (h hS))
  rw [List.take_append_drop] at h1
  have e : (os.take m).length + (os.drop m).length = os.length := by rw [← List.length_append, List.take_append_drop]
  rw [e] at h1
  simpa using h1
/-- The same where those ahead only read, but for draws. -/
theorem wp_region_quiet_tail (m : Nat) {id : Nat} {a : Act} {w : World} {os : List Oper} (hm : P.follows .mixedOrders = true) (hB : tailB .any (os.take m) (os.drop m) = true) (hL : Region.lexB .any (os.take m).toArray = true)
    (h : wpQuiet P (os.take m).toArray (fun w' => ∃ n, w' = w.drewN n) (fun a' => ∀ w', (∃ n, w' = w.drewN n) → wpList P os.toArray Q (os.drop m) a' w') (os.take m) a) : (Code.region id os.toArray true).wp P Q a w := by
  simp only [Region.lexB, Bool.and_eq_true] at hL
  refine wp_region_any hm ?_
  have h2 := wpAnyQ_lex (P := P) (C := fun w' => ∃ n, w' = w.drewN n) (md := .any) hL.1 (os.take m) 0 (Array.replicate (os.take m).length false) a (by simp) (by simpa using hL.2) h
  have h3 := wpAny_of_quiet (P := P) (Q' := TailQ P os.toArray Q (os.drop m)) (fun a w' hw' hq => hq w' hw') _ _ _ w.drew ⟨1, rfl⟩ h2
  have h1 := wpAny_tail (P := P) (Q := Q) (md := .any) (os.drop m) (os.take m) hB (os.take m).length a w.drew (by rw [List.take_append_drop]; exact h3)
  rw [List.take_append_drop] at h1
  have e : (os.take m).length + (os.drop m).length = os.length := by rw [← List.length_append, List.take_append_drop]
  rw [e] at h1
  simpa using h1
/-- As the kit's take, with the slot that it writes named. -/
theorem wpAnyH_tk {S : World → Prop} {i : Nat} {oi : Oper} {v : Value} {fuel : Nat} {listed : Array Bool} {a : Act} {w : World} (d : Option Tmp) (hi : ops[i]? = some oi) (hd : oi.dst = d)
    (hs : Region.noSelect ops = true) (hf : Region.free md ops listed i = true) (hr : (Region.ready md ops listed).contains i = true)
    (hQ : ∀ c a w, Q (.panic c) (a.put d v) w → Q (.panic c) a w) (hw : Region.wanted oi (yielded ops a.tmps) = true) (hy : ∀ w, S w → (execOp a.eval oi).run P w = .ok (.value v) w) (hS : S w)
    (h : wpAnyH P md ops Q S fuel (listed.setIfInBounds i true) (a.put d v) w) : wpAnyH P md ops Q S (fuel + 1) listed a w := by
  subst hd
  exact wpAnyH_take hi hs hf hr hQ (.inl ⟨hw, hy⟩) hS h
theorem wpAnyH_no {S : World → Prop} {i : Nat} {oi : Oper} {fuel : Nat} {listed : Array Bool} {a : Act} {w : World} (d : Option Tmp) (hi : ops[i]? = some oi) (hd : oi.dst = d)
    (hs : Region.noSelect ops = true) (hf : Region.free md ops listed i = true) (hr : (Region.ready md ops listed).contains i = true)
    (hQ : ∀ c a w, Q (.panic c) (a.put d undef) w → Q (.panic c) a w) (hw : Region.wanted oi (yielded ops a.tmps) = false) (hS : S w)
    (h : wpAnyH P md ops Q S fuel (listed.setIfInBounds i true) (a.put d undef) w) : wpAnyH P md ops Q S (fuel + 1) listed a w := by
  subst hd
  exact wpAnyH_take hi hs hf hr hQ (.inr ⟨hw, rfl⟩) hS h
end
end Go.Proofs.Ytiejljlmbpgbiaa
