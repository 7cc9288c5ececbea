/- As XPop, inside a fence, and in a round of a range over a function: all but the last operations only read; then the last ones. Conditions: what each theorem names. -/
import Derived.Test.YtnhcoggjnbldiaaPop
import Derived.Sort.QuietIn
import Derived.RangeFuncCalls
namespace Go.Proofs.Ytnhcoggjnbldiaa
open Go.RowKit
set_option maxRecDepth 100000
set_option linter.unusedVariables false
set_option linter.unusedSimpArgs false

section
variable {F : Fence} {n : Nat} {P : Program} {ops : Array Oper} {Q : Exit → Act → World → Prop} {md : Region.Mode}

def PopI (F : Fence) (n : Nat) (P : Program) (ops : Array Oper) (Q : Exit → Act → World → Prop) (o : Oper) : Exit → Act → World → Prop
  | .normal, a, w => wpListIn F n P ops Q [o] a w
  | .ret, a, w => Q .ret a w
  | .exit c, a, w => Q (.exit c) a w
  | .goto c, a, w => Q (.goto c) a w
  | .panic c, a, w => Q (.panic c) a w
  | .outgrown, a, w => Q .outgrown a w
theorem uponIn_post {Q Q' : Exit → Act → World → Prop} (hp : ∀ c a w, Q (.panic c) a w → Q' (.panic c) a w) (ho : ∀ a w, Q .outgrown a w → Q' .outgrown a w) {o : Oper} {a : Act} {K : Act → World → Prop} {r : Result Next} (h : o.uponIn F n P a K Q r) : o.uponIn F n P a K Q' r := by
  cases r with
  | ok x w' =>
    cases x <;> simp only [Oper.uponIn] at h ⊢ <;> first
      | exact h
      | exact ⟨h.1, CallsIn.mono h.2 (fun e w'' he => by cases e <;> first | exact he | exact hp _ _ _ he | (obtain ⟨a', w', hl⟩ := he; exact ⟨a', w', ho _ _ hl⟩))⟩
      | exact ⟨h.1, RowsIn.mono h.2 (fun _ _ he => he)⟩
      | exact ⟨h.1, RoundIn.mono h.2 (fun e w'' he => by cases e <;> first | exact he | exact hp _ _ _ he | (obtain ⟨a', w', hl⟩ := he; exact ⟨a', w', ho _ _ hl⟩))⟩
  | halt x w' => cases x <;> simp only [Oper.uponIn] at h ⊢ <;> first | exact h | exact hp _ _ _ h
theorem wpOpIn_post {Q Q' : Exit → Act → World → Prop} (hq : ∀ e a w, Q e a w → Q' e a w) {i : Nat} {K : Act → World → Prop} {a : Act} {w : World} (h : wpOpIn F n P ops Q i K a w) : wpOpIn F n P ops Q' i K a w := by
  unfold wpOpIn at *
  split
  · rename_i hn; simp only [hn] at h; exact h
  · rename_i oi ho
    simp only [ho] at h
    split
    · rename_i hw
      simp only [hw, if_true] at h
      exact ⟨h.1, uponIn_post (fun c => hq _) (hq _) h.2⟩
    · rename_i hw
      simp only [hw] at h
      exact h
theorem wpAnyIn_post {Q Q' : Exit → Act → World → Prop} (hq : ∀ e a w, Q e a w → Q' e a w) : ∀ (fuel : Nat) (listed : Array Bool) (a : Act) (w : World), wpAnyIn F n P md ops Q fuel listed a w → wpAnyIn F n P md ops Q' fuel listed a w
  | 0, _, _, _, h => ⟨h.1, hq _ _ _ h.2⟩
  | fuel + 1, _, _, _, h => ⟨fun h0 => hq _ _ _ (h.1 h0), fun i hi => wpOpIn_post hq (wpOpIn_mono (fun a' w' h' => wpAnyIn_post hq fuel _ a' w' h') (h.2 i hi))⟩
theorem wpOpIn_pop (hB : lastB md ops = true) {o : Oper} {i : Nat} (hi : i < ops.size - 1) {K : Act → World → Prop} {a : Act} {w : World} (h : wpOpIn F n P ops.pop (PopI F n P ops Q o) i K a w) : wpOpIn F n P ops Q i K a w := by
  obtain ⟨h0, h1, _⟩ := lastB_parts hB
  unfold wpOpIn at *
  rw [pop_get i hi] at h
  split
  · rename_i hn; simp only [hn] at h; exact h
  · rename_i oi ho
    simp only [ho] at h
    rw [wanted_pop (h1 i oi ho).2] at h
    split
    · rename_i hw
      simp only [hw, if_true] at h
      exact ⟨h.1, uponIn_post (fun _ _ _ h => h) (fun _ _ h => h) h.2⟩
    · rename_i hw
      simp only [hw] at h
      exact h
theorem wpAnyIn_allup {listed : Array Bool} {a : Act} {w : World} (h : Q .normal a w) (hr : Region.ready md ops listed = []) : ∀ fuel, wpAnyIn F n P md ops Q fuel listed a w
  | 0 => ⟨hr, h⟩
  | _ + 1 => ⟨fun _ => h, by rw [hr]; simp⟩
theorem wpOpIn_last {o : Oper} (ho : ops[ops.size - 1]? = some o) {K : Act → World → Prop} {a : Act} {w : World} (hK : ∀ a w, Q .normal a w → K a w) (h : wpListIn F n P ops Q [o] a w) : wpOpIn F n P ops Q (ops.size - 1) K a w := by
  refine wpOpIn_mono hK ?_
  unfold wpOpIn
  simp only [ho]
  exact h
theorem wpAnyIn_pop (hB : lastB md ops = true) {o : Oper} (ho : ops[ops.size - 1]? = some o) : ∀ (fuel : Nat) (listed : Array Bool) (a : Act) (w : World), listed.size = ops.size - 1 → Shd md ops (listed.push false) →
    wpAnyIn F n P md ops.pop (PopI F n P ops Q o) fuel listed a w → wpAnyIn F n P md ops Q (fuel + 1) (listed.push false) a w := by
  intro fuel
  induction fuel with
  | zero =>
    intro listed a w hs hc h
    obtain ⟨hr, hq⟩ := h
    have hall := ready_nil hB hs hr
    have hlast := ready_last hB hs hall
    refine ⟨(fun h0 => by rw [h0] at hlast; cases hlast), fun i hi => ?_⟩
    have hilt := ready_lt hi
    by_cases hin : i = ops.size - 1
    · subst hin
      exact wpOpIn_last ho (fun a w hn => wpAnyIn_allup hn (allup_nil hs hall) 0) hq
    · rw [ready_pop hB hs (by omega), hr] at hi; cases hi
  | succ fuel ih =>
    intro listed a w hs hc h
    obtain ⟨hn, hi'⟩ := h
    refine ⟨fun h0 => ?_, fun i hi => ?_⟩
    · exfalso
      have hr : Region.ready md ops.pop listed = [] := List.eq_nil_iff_forall_not_mem.2 fun j hj => by
        have hlt := ready_lt hj
        rw [Array.size_pop] at hlt
        have := (ready_pop hB hs hlt).2 hj
        rw [h0] at this; cases this
      have := ready_last hB hs (ready_nil hB hs hr)
      rw [h0] at this; cases this
    · have hilt := ready_lt hi
      by_cases hin : i = ops.size - 1
      · subst hin
        have hall := last_all hB hs hc hi
        have hr : Region.ready md ops.pop listed = [] := List.eq_nil_iff_forall_not_mem.2 fun j hj => by
          have hlt := ready_lt hj
          rw [Array.size_pop] at hlt
          have h0 := (mem_ready.1 hj).1
          have := hall j hlt
          have hjs : j < listed.size := by omega
          simp [Array.getD_eq_getD_getElem?, Array.getElem?_eq_getElem hjs] at this h0
          rw [this] at h0; cases h0
        exact wpOpIn_last ho (fun a w hn => wpAnyIn_allup hn (allup_nil hs hall) (fuel + 1)) (hn hr)
      · have hin' : i < ops.size - 1 := by omega
        refine wpOpIn_pop hB hin' (wpOpIn_mono (fun a w hh => ?_) (hi' i ((ready_pop hB hs hin').1 hi)))
        rw [push_set i (by omega)]
        refine ih _ a w (by rw [Array.size_setIfInBounds]; exact hs) ?_ hh
        rw [← push_set i (by omega)]
        exact shd_step hc hi
def TailI (F : Fence) (n : Nat) (P : Program) (ops : Array Oper) (Q : Exit → Act → World → Prop) (t : List Oper) : Exit → Act → World → Prop
  | .normal, a, w => wpListIn F n P ops Q t a w
  | .ret, a, w => Q .ret a w
  | .exit c, a, w => Q (.exit c) a w
  | .goto c, a, w => Q (.goto c) a w
  | .panic c, a, w => Q (.panic c) a w
  | .outgrown, a, w => Q .outgrown a w
theorem wpAnyIn_tail : ∀ (t l : List Oper), tailB md l t = true → ∀ (fuel : Nat) (a : Act) (w : World),
    wpAnyIn F n P md l.toArray (TailI F n P (l ++ t).toArray Q t) fuel (Array.replicate l.length false) a w → wpAnyIn F n P md (l ++ t).toArray Q (fuel + t.length) (Array.replicate (l ++ t).length false) a w
  | [], l, _, fuel, a, w, h => by
    simp only [List.append_nil, List.length_nil, Nat.add_zero] at h ⊢
    exact wpAnyIn_post (fun e a w hq => by cases e <;> exact hq) _ _ _ _ h
  | o :: r, l, hB, fuel, a, w, h => by
    simp only [tailB, Bool.and_eq_true] at hB
    obtain ⟨hB1, hB2⟩ := hB
    have hpop : ((l ++ [o]).toArray).pop = l.toArray := by simp
    have hsz : ((l ++ [o]).toArray).size - 1 = l.length := by simp
    have ho : ((l ++ [o]).toArray)[((l ++ [o]).toArray).size - 1]? = some o := by simp
    have hg : guardOk l.length o = true := by
      have := ((lastB_parts hB1).2.1 _ o ho).2
      rwa [hsz] at this
    have e1 : l ++ o :: r = (l ++ [o]) ++ r := by simp
    have h1 : wpAnyIn F n P md ((l ++ [o]).toArray).pop (PopI F n P (l ++ [o]).toArray (TailI F n P (l ++ o :: r).toArray Q r) o) fuel (Array.replicate l.length false) a w := by
      rw [hpop]
      refine wpAnyIn_post (fun e a w hq => ?_) _ _ _ _ h
      cases e <;> try exact hq
      simp only [TailI, PopI, wpListIn] at hq ⊢
      rw [wanted_app l r o a.tmps hg] at hq
      split
      · rename_i hw
        simp only [hw, if_true] at hq
        exact ⟨hq.1, uponIn_post (fun _ _ _ h => h) (fun _ _ h => h) hq.2⟩
      · rename_i hw
        simp only [hw] at hq
        exact hq
    have h2 := wpAnyIn_pop (P := P) hB1 ho fuel (Array.replicate l.length false) a w (by simp) (by rw [← Array.replicate_succ]; exact shd_start _ _ _) h1
    rw [← Array.replicate_succ] at h2
    have e2 : (l ++ [o]).length = l.length + 1 := by simp
    rw [← e2] at h2
    have h3 := wpAnyIn_tail r (l ++ [o]) hB2 (fuel + 1) a w (by rw [← e1]; exact h2)
    rw [← e1, show fuel + 1 + r.length = fuel + (o :: r).length by simp; omega] at h3
    exact h3
/-- No operation is a defer statement. -/
def noDef (ops : Array Oper) : Bool := ops.all fun o => match o.op with | .defer _ => false | _ => true
theorem noDef_spec (h : noDef ops = true) {i : Nat} {o : Oper} (ho : ops[i]? = some o) : ∀ c, o.op ≠ .defer c := by
  intro c heq
  have := Array.all_eq_true_iff_forall_mem.1 h o (Array.mem_of_getElem? ho)
  simp [heq] at this
theorem wpOpIn_round {l : Nat} (hro : F.round = none) (hd : noDef ops = true) {i : Nat} {K : Act → World → Prop} {a : Act} {w : World} (h : wpOpIn F n P ops Q i K a w) : wpOpIn (F.inRound l) n P ops Q i K a w := by
  unfold wpOpIn at *
  split
  · rename_i hn; simp only [hn] at h; exact h
  · rename_i o ho
    simp only [ho] at h
    split
    · rename_i hw
      simp only [hw, if_true] at h
      unfold Oper.wpIn at *
      refine ⟨h.1, ?_⟩
      have h2 := h.2
      rw [hro, Oper.semAt_none] at h2
      rw [show (F.inRound l).round = some l from rfl, Oper.semAt_some l _ o (noDef_spec hd ho)]
      exact h2
    · rename_i hw
      simp only [hw] at h
      exact h
theorem wpAnyIn_round {l : Nat} (hro : F.round = none) (hd : noDef ops = true) : ∀ (fuel : Nat) (listed : Array Bool) (a : Act) (w : World), wpAnyIn F n P md ops Q fuel listed a w → wpAnyIn (F.inRound l) n P md ops Q fuel listed a w
  | 0, _, _, _, h => h
  | fuel + 1, _, _, _, h => ⟨h.1, fun i hi => wpOpIn_round hro hd (wpOpIn_mono (fun a' w' h' => wpAnyIn_round hro hd fuel _ a' w' h') (h.2 i hi))⟩
/-- In a round: a region that draws its order; all but the last ones only read, but for draws; then the last ones. -/
theorem wpIn_region_quiet_tail (m : Nat) {l id : Nat} {a : Act} {w : World} {os : List Oper} (hro : F.round = none) (hm : P.follows .mixedOrders = true) (hB : tailB .any (os.take m) (os.drop m) = true) (hL : Region.lexB .any (os.take m).toArray = true) (hd : noDef (os.take m).toArray = true)
    (h : wpQuietIn F n P (os.take m).toArray (fun w' => ∃ k, w' = w.drewN k) (fun a' => ∀ w', (∃ k, w' = w.drewN k) → wpListIn (F.inRound l) n P os.toArray Q (os.drop m) a' w') (os.take m) a) : (Code.region id os.toArray true).wpIn (F.inRound l) n P Q a w := by
  simp only [Region.lexB, Bool.and_eq_true] at hL
  refine wpIn_region_any hm ?_
  have h2 := wpAnyQIn_lex (F := F) (n := n) (P := P) (C := fun w' => ∃ k, w' = w.drewN k) (md := .any) hL.1 (os.take m) 0 (Array.replicate (os.take m).length false) a (by simp) (by simpa using hL.2) h
  have h3 := wpAnyIn_of_quiet (F := F) (n := n) (P := P) (Q' := TailI (F.inRound l) n P os.toArray Q (os.drop m)) hro (fun a w' hw' hq => hq w' hw') _ _ _ w.drew ⟨1, rfl⟩ h2
  have h4 := wpAnyIn_round (l := l) hro hd _ _ _ _ h3
  have h1 := wpAnyIn_tail (F := F.inRound l) (n := n) (P := P) (Q := Q) (md := .any) (os.drop m) (os.take m) hB (os.take m).length a w.drew (by rw [List.take_append_drop]; exact h4)
  rw [List.take_append_drop] at h1
  have e : (os.take m).length + (os.drop m).length = os.length := by rw [← List.length_append, List.take_append_drop]
  rw [e] at h1
  simpa using h1
/-- The same with nothing behind. -/
theorem wpIn_region_quiet_round {l id : Nat} {a : Act} {w : World} {os : List Oper} (hro : F.round = none) (hm : P.follows .mixedOrders = true) (hL : Region.lexB .any os.toArray = true) (hd : noDef os.toArray = true)
    (h : wpQuietIn F n P os.toArray (fun w' => ∃ k, w' = w.drewN k) (fun a' => ∀ w', (∃ k, w' = w.drewN k) → Q .normal a' w') os a) : (Code.region id os.toArray true).wpIn (F.inRound l) n P Q a w := by
  simp only [Region.lexB, Bool.and_eq_true] at hL
  refine wpIn_region_any hm ?_
  have h2 := wpAnyQIn_lex (F := F) (n := n) (P := P) (C := fun w' => ∃ k, w' = w.drewN k) (md := .any) hL.1 os 0 (Array.replicate os.length false) a (by simp) (by simpa using hL.2) h
  have h3 := wpAnyIn_of_quiet (F := F) (n := n) (P := P) (Q' := Q) hro (fun a w' hw' hq => hq w' hw') _ _ _ w.drew ⟨1, rfl⟩ h2
  have h4 := wpAnyIn_round (l := l) hro hd _ _ _ _ h3
  simpa using h4
/-- Q, but nothing is let out. -/
def NoOut (Q : Exit → Act → World → Prop) : Exit → Act → World → Prop
  | .outgrown, _, _ => False
  | .normal, a, w => Q .normal a w
  | .ret, a, w => Q .ret a w
  | .exit c, a, w => Q (.exit c) a w
  | .goto c, a, w => Q (.goto c) a w
  | .panic c, a, w => Q (.panic c) a w
theorem NoOut.nrm {a : Act} {w : World} (h : Q .normal a w) : NoOut Q .normal a w := h
theorem rowsIn_of {n : Nat} {row : String} {args : Array Value} {w : World} {R : Value → World → Prop} (h : Rows P row args w R) : RowsIn Fence.wide n P row args w R :=
  fun c cs _ => let ⟨v, w', r, s⟩ := h c cs; ⟨v, w', r, stepsIn_wide.2 s⟩
theorem uponIn_of {l n : Nat} {o : Oper} {a : Act} {K : Act → World → Prop} {r : Result Next} (h : o.upon P a K (NoOut Q) r) : o.uponIn (Fence.wide.inRound l) n P a K Q r := by
  cases r with
  | ok x w' =>
    cases x <;> simp only [Oper.upon] at h <;> simp only [Oper.uponIn] <;> first
      | exact h
      | exact ⟨(fun hd => by cases hd), CallsIn.inRound l (callsIn_wide.2 (Calls.mono h (fun e w'' he => by cases e <;> first | exact he | (obtain ⟨_, _, hl⟩ := he; exact hl.elim))))⟩
      | exact ⟨(fun hd => by cases hd), rowsIn_of h⟩
  | halt x w' => cases x <;> simp only [Oper.upon] at h <;> simp only [Oper.uponIn] <;> exact h
theorem wpOpIn_of {l n : Nat} (hd : noDef ops = true) {i : Nat} {K : Act → World → Prop} {a : Act} {w : World} (h : wpOp P ops (NoOut Q) i K a w) : wpOpIn (Fence.wide.inRound l) n P ops Q i K a w := by
  unfold wpOp at h
  unfold wpOpIn
  split
  · rename_i hn; simp only [hn] at h; exact h
  · rename_i o ho
    simp only [ho] at h
    split
    · rename_i hw
      simp only [hw, if_true] at h
      rcases h with h | ⟨_, _, _, hl⟩
      · unfold Oper.wpIn
        refine ⟨fun _ _ => trivial, ?_⟩
        rw [show (Fence.wide.inRound l).round = some l from rfl, Oper.semAt_some l _ o (noDef_spec hd ho)]
        exact uponIn_of h
      · exact hl.elim
    · rename_i hw
      simp only [hw] at h
      exact ⟨fun _ _ => trivial, h⟩
theorem wpAnyIn_of {l n : Nat} (hd : noDef ops = true) : ∀ (fuel : Nat) (listed : Array Bool) (a : Act) (w : World), wpAny P md ops (NoOut Q) fuel listed a w → wpAnyIn (Fence.wide.inRound l) n P md ops Q fuel listed a w
  | 0, _, _, _, h => h
  | fuel + 1, _, _, _, h => ⟨h.1, fun i hi => wpOpIn_of hd (wpOp_mono (fun a' w' h' => wpAnyIn_of hd fuel _ a' w' h') (h.2 i hi))⟩
/-- In a round at the wide fence: a region that draws its order, under S: all but the last ones in whatever order, then these; walked as outside. -/
theorem wpIn_region_held_tail (m : Nat) {S : World → Prop} {l n id : Nat} {a : Act} {w : World} {os : List Oper} (hm : P.follows .mixedOrders = true) (hd : noDef os.toArray = true) (hB : tailB .any (os.take m) (os.drop m) = true) (hS : S w.drew)
    (h : S w.drew → wpAnyH P .any (os.take m).toArray (TailQ P os.toArray (NoOut Q) (os.drop m)) S (os.take m).length (Array.replicate (os.take m).length false) a w.drew) : (Code.region id os.toArray true).wpIn (Fence.wide.inRound l) n P Q a w := by
  refine wpIn_region_any hm ?_
  have h1 := wpAny_tail (P := P) (Q := NoOut Q) (md := .any) (os.drop m) (os.take m) hB (os.take m).length a w.drew (by rw [List.take_append_drop]; exact wpAny_of_held _ _ _ _ (h hS))
  rw [List.take_append_drop] at h1
  have e : (os.take m).length + (os.drop m).length = os.length := by rw [← List.length_append, List.take_append_drop]
  rw [e] at h1
  have h2 := wpAnyIn_of (l := l) (n := n) hd _ _ _ _ h1
  simpa using h2
end
end Go.Proofs.Ytnhcoggjnbldiaa
