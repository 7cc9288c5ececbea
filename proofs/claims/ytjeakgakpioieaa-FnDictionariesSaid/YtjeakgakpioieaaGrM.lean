/- Grown pairs: the program's dictionary as a map. Conditions: numbers of 64 bits, no entry twice. -/
import Derived.Test.YtjeakgakpioieaaGrP
import Derived.Maps.Views
import Derived.Maps.OwnSet
import Derived.DeepKeys4
namespace Go.Proofs.Ytjeakgakpioieaa
open Go.WideShapes Go.ChangeShapes Go.Maps
set_option maxRecDepth 100000
set_option linter.unusedVariables false
set_option linter.unusedSimpArgs false

def kl (e : Int × Int) : Lit := .string (keyBytes [.int .i64 e.1, .int .i64 e.2])
def In64 (e : Int × Int) : Prop := I64 e.1 ∧ I64 e.2
theorem kl_inj (a b : Int × Int) (ha : In64 a) (hb : In64 b) (h : kl a = kl b) : a = b := by
  have w : ∀ z : Int, I64 z → (Lit.int .i64 z).wf = true := fun z hz => by
    obtain ⟨h1, h2⟩ := hz
    simp only [Lit.wf, IntKind.min, IntKind.max, IntKind.signed, IntKind.bits, Bool.and_eq_true, decide_eq_true_eq, if_true]
    omega
  have k : ∀ e : Int × Int, In64 e → ∀ x ∈ [Lit.int .i64 e.1, Lit.int .i64 e.2], x.keyWf := fun e he x hx => by
    rcases List.mem_cons.1 hx with rfl | hx
    · exact w _ he.1
    · obtain rfl := List.mem_singleton.1 hx
      exact w _ he.2
  have e := keyBytes_inj (l := [Lit.int .i64 a.1, Lit.int .i64 a.2]) (l' := [Lit.int .i64 b.1, Lit.int .i64 b.2]) (by simp [Alike, Lit.sameKind]) (k a ha) (k b hb) (Lit.string.inj h)
  simp only [List.cons.injEq, Lit.int.injEq, true_and, and_true] at e
  exact Prod.ext e.1 e.2
theorem wf64 {z : Int} (hz : I64 z) : (Lit.int .i64 z).wf = true := by
  obtain ⟨h1, h2⟩ := hz
  simp only [Lit.wf, IntKind.min, IntKind.max, IntKind.signed, IntKind.bits, Bool.and_eq_true, decide_eq_true_eq, if_true]
  omega
theorem lits_int {d : Nat} {a : Int} (ha : I64 a) : Try.prog.keyLits (d + 1) 2 [.int .i64 a] = some [.int .i64 a] := by
  unfold Program.keyLits
  simp only [Try.underlying2]
  rw [if_pos ⟨trivial, wf64 ha⟩]
theorem ent_cells : Try.prog.cellsOf 59 = 2 := by kernel_rfl
theorem int_cells : Try.prog.cellsOf 2 = 1 := by kernel_rfl
theorem lits_entry {d : Nat} {a b : Int} (ha : I64 a) (hb : I64 b) : Try.prog.keyLits (d + 1 + 1) 59 [.int .i64 a, .int .i64 b] = some [.int .i64 a, .int .i64 b] := by
  unfold Program.keyLits
  simp only [Try.underlying59]
  rw [if_pos ⟨by rw [ent_cells]; rfl, by kernel_rfl⟩]
  simp only [List.mapM_cons, List.mapM_nil, int_cells]
  simp [lits_int ha, lits_int hb]
theorem keyOf_entry {a b : Int} (ha : I64 a) (hb : I64 b) : keyOf Try.prog 59 (.agg #[.int .i64 a, .int .i64 b]) = some (kl (a, b)) := by
  have h1 : Try.prog.keyType 59 = true := by kernel_rfl
  have h2 : (Value.agg #[.int .i64 a, .int .i64 b]).formed Try.prog 59 = true := by simp [Value.formed, Try.underlying59, ent_cells]
  obtain ⟨m, hm⟩ : ∃ m, Try.prog.types.size = m + 1 := ⟨Try.prog.types.size - 1, by kernel_rfl⟩
  unfold keyOf
  simp only [Try.underlying59]
  rw [if_pos (by rw [h1, h2]; rfl), hm]
  show (Try.prog.keyLits (m + 1 + 1) 59 [.int .i64 a, .int .i64 b]).map _ = _
  rw [lits_entry ha hb]; rfl
theorem entry_row : (59 : TypeId) < Try.prog.types.size := of_decide_eq_true (by kernel_rfl)
theorem entry_wide : (match Try.prog.underlying 59 with | some (.array _ _) | some (.struct _) => true | _ => false) = true := by rw [Try.underlying59]
theorem entry_laid : laidOutB Try.prog = true := by kernel_rfl
theorem entry_keyed : Keyed Try.prog 59 := Keyed.of_law (deep_law_laid entry_laid (m := 2) (by omega) entry_row (by kernel_rfl) entry_wide)
theorem kl_key (e : Int × Int) : WideAt.IsKeyLit (kl e) := trivial
theorem lookF_app (ds : List (Int × Int)) (e d : Int × Int) (k : Nat) : lookF (ds ++ [d]) e k = match lookF ds e k with | some j => some j | none => if d = e then some (k + ds.length) else none := by
  induction ds generalizing k with
  | nil => simp [lookF]
  | cons a ds ih =>
    rw [List.cons_append, lookF, lookF]
    by_cases h : a = e
    · rw [if_pos h, if_pos h]
    · rw [if_neg h, if_neg h, ih]
      cases lookF ds e (k + 1) with
      | some j => rfl
      | none => simp only; rw [List.length_cons, show k + 1 + ds.length = k + (ds.length + 1) by omega]
section
variable {H : Type}
/-- What the dictionary reads as. -/
inductive MapD : List (Int × Int) → DataW H → Prop
  | nil : MapD [] (.map [])
  | snoc {ds : List (Int × Int)} {D : DataW H} (h : MapD ds D) (e : Int × Int) (hn : look ds e = none) : MapD (ds ++ [e]) (D.put (kl e) (.lit (.int .i64 ((ds.length : Int) + 1))))
theorem MapD.tidy {ds : List (Int × Int)} {D : DataW H} (h : MapD ds D) : Tidy D := by
  induction h with
  | nil => exact tidy_empty
  | snoc h e hn ih => exact ih.put (kl_key e) _
theorem MapD.facts (hinj : ∀ a b : Int × Int, In64 a → In64 b → kl a = kl b → a = b) {ds : List (Int × Int)} {D : DataW H} (h : MapD ds D) : (∀ d ∈ ds, In64 d) → size D = ds.length ∧ ∀ e, In64 e → has D (kl e) = (look ds e).isSome ∧ ∀ k, look ds e = some k → ∀ z, D.atKey (kl e) z = .lit (.int .i64 ((k : Int) + 1)) := by
  induction h with
  | nil => intro _; exact ⟨rfl, fun e _ => ⟨rfl, fun k hk => by cases hk⟩⟩
  | @snoc ds D h d hn ih =>
    intro hall
    obtain ⟨hs, hf⟩ := ih (fun x hx => hall x (by simp [hx]))
    have hd : In64 d := hall d (by simp)
    have hhd : has D (kl d) = false := by rw [(hf d hd).1, hn]; rfl
    refine ⟨?_, fun e he => ?_⟩
    · rw [size_put h.tidy, hhd]; simp [hs]
    · have hl : look (ds ++ [d]) e = match look ds e with | some j => some j | none => if d = e then some (0 + ds.length) else none := lookF_app ds e d 0
      by_cases hde : d = e
      · subst hde
        rw [hl, hn]
        simp only [if_true]
        refine ⟨by rw [has_put_same h.tidy.isMap (kl_key d)]; rfl, fun k hk z => ?_⟩
        have := Option.some.inj hk
        rw [atKey_put_same h.tidy.isMap (kl_key d)]
        rw [show k = ds.length by omega]
      · have hne : kl e ≠ kl d := fun x => hde (hinj _ _ he hd x).symm
        rw [has_put_other hne, hl]
        refine ⟨?_, fun k hk z => ?_⟩
        · rw [(hf e he).1]
          cases look ds e with
          | some j => rfl
          | none => simp only [if_neg hde]
        · rw [atKey_put_other hne]
          refine (hf e he).2 k ?_ z
          cases hx : look ds e with
          | some j => rw [hx] at hk; exact hk
          | none => rw [hx] at hk; simp only [if_neg hde] at hk; cases hk
end
end Go.Proofs.Ytjeakgakpioieaa
