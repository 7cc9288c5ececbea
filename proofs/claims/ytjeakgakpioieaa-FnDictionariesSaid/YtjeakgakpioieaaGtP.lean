/- Grown text: what both packages compute, as plain functions, and that it is the same. No conditions. -/
import Derived.Test.YtjeakgakpioieaaGrP
import Derived.Test.YtjeakgakpioieaaText
import Derived.Test.YtjeakgakpioieaaEq
namespace Go.Proofs.Ytjeakgakpioieaa
set_option maxRecDepth 100000
set_option linter.unusedVariables false
set_option linter.unusedSimpArgs false

/-- A letter of a pair. -/
def gq (zs : List Int) (k j : Nat) : Int := zs.getD (2 * k + j) 0
theorem gq_eq {zs : List Int} {k j : Nat} (h : 2 * k + j < zs.length) : gq zs k j = zs[2 * k + j] := by
  unfold gq; rw [List.getD_eq_getElem?_getD, List.getElem?_eq_getElem h]; rfl
theorem gq_eq0 {zs : List Int} {k : Nat} (h : 2 * k < zs.length) : gq zs k 0 = zs[2 * k] := gq_eq (by omega)
abbrev Gt := List (List Int) × List Int
def nxt (ws : List (List Int)) (p x : Int) : List Int := if x = -1 then wordAt ws p else wordAt ws p ++ [x]
def gdStep (zs : List Int) (s : Gt) (k : Nat) : Option Gt :=
  if inB (gq zs k 0) 0 ((s.1.length : Int) - 1) = true then some (s.1 ++ [nxt s.1 (gq zs k 0) (gq zs k 1)], s.2 ++ nxt s.1 (gq zs k 0) (gq zs k 1)) else none
def gdGo (zs : List Int) : Gt → List Nat → Option Gt
  | s, [] => some s
  | s, k :: ks => (gdStep zs s k).bind fun t => gdGo zs t ks
theorem gdGo_app (zs : List Int) (s : Gt) (ks js : List Nat) : gdGo zs s (ks ++ js) = (gdGo zs s ks).bind fun t => gdGo zs t js := by
  induction ks generalizing s with
  | nil => rfl
  | cons k ks ih =>
    rw [List.cons_append, gdGo, gdGo]
    cases gdStep zs s k with
    | none => rfl
    | some t => exact ih t
def gd0 : Gt := ([[]], [])
def gdF (zs : List Int) (ks : List Nat) : Option Gt := gdGo zs gd0 ks
theorem gdF_snoc (zs : List Int) (ks : List Nat) (k : Nat) : gdF zs (ks ++ [k]) = (gdF zs ks).bind fun s => gdStep zs s k := by
  unfold gdF; rw [gdGo_app]
  congr 1; funext s
  show (gdStep zs s k).bind _ = _
  cases gdStep zs s k <;> rfl
theorem gdF_none_le {zs : List Int} {k q : Nat} (hk : k ≤ q) (h : gdF zs (List.range k) = none) : gdF zs (List.range q) = none := by
  obtain ⟨d, rfl⟩ := Nat.exists_eq_add_of_le hk
  clear hk
  induction d with
  | zero => exact h
  | succ d ih => rw [← Nat.add_assoc, List.range_succ, gdF_snoc, ih]; rfl
/-- The reference's way: it looks at each letter and at the length. -/
def gsStep (n : Int) (zs : List Int) (s : Gt) (k : Nat) : Option Gt :=
  if inB (gq zs k 0) 0 ((s.1.length : Int) - 1) = true ∧ inB (gq zs k 1) (-1) (n - 1) = true ∧ (s.2 ++ nxt s.1 (gq zs k 0) (gq zs k 1)).length ≤ 64 then some (s.1 ++ [nxt s.1 (gq zs k 0) (gq zs k 1)], s.2 ++ nxt s.1 (gq zs k 0) (gq zs k 1)) else none
def gsGo (n : Int) (zs : List Int) : Gt → List Nat → Option Gt
  | s, [] => some s
  | s, k :: ks => (gsStep n zs s k).bind fun t => gsGo n zs t ks
def okO (n : Int) (out : List Int) : Bool := decide (out.length ≤ 64) && allIn out 0 (n - 1)
theorem okO_app {n : Int} {a b : List Int} : okO n (a ++ b) = true → okO n a = true := by
  unfold okO
  simp only [Bool.and_eq_true, decide_eq_true_eq, allIn_iff, List.length_append, List.mem_append]
  exact fun h => ⟨by omega, fun z hz => h.2 z (.inl hz)⟩
theorem gdGo_pre {zs : List Int} {s r : Gt} {ks : List Nat} (h : gdGo zs s ks = some r) : ∃ t, r.2 = s.2 ++ t := by
  induction ks generalizing s with
  | nil => rw [gdGo] at h; obtain rfl := Option.some.inj h; exact ⟨[], by simp⟩
  | cons k ks ih =>
    rw [gdGo] at h
    obtain ⟨u, hu, hr⟩ := Option.bind_eq_some_iff.1 h
    obtain ⟨t, ht⟩ := ih hr
    unfold gdStep at hu
    split at hu
    · obtain rfl := Option.some.inj hu
      exact ⟨_, by rw [ht, List.append_assoc]⟩
    · cases hu
theorem allIn_mem {zs : List Int} {lo hi : Int} (h : allIn zs lo hi = true) {z : Int} (hz : z ∈ zs) : lo ≤ z ∧ z ≤ hi := (allIn_iff _ _ _).1 h z hz
theorem wordAt_all {ws : List (List Int)} {p lo hi : Int} (h : ∀ w ∈ ws, allIn w lo hi = true) : allIn (wordAt ws p) lo hi = true := by
  unfold wordAt
  cases hk : ws[p.toNat]? with
  | none => rfl
  | some w => exact h w (List.mem_of_getElem? hk)
/-- Both ways come to the same. -/
theorem gs_gd (n : Int) (hn : 1 ≤ n) (zs : List Int) (ks : List Nat) (s : Gt) (hw : ∀ w ∈ s.1, allIn w 0 (n - 1) = true) (ho : okO n s.2 = true) :
    gsGo n zs s ks = (gdGo zs s ks).bind fun r => if okO n r.2 = true then some r else none := by
  induction ks generalizing s with
  | nil => rw [gsGo, gdGo]; simp [ho]
  | cons k ks ih =>
    rw [gsGo, gdGo]
    by_cases h1 : inB (gq zs k 0) 0 ((s.1.length : Int) - 1) = true
    · have hd : gdStep zs s k = some (s.1 ++ [nxt s.1 (gq zs k 0) (gq zs k 1)], s.2 ++ nxt s.1 (gq zs k 0) (gq zs k 1)) := by rw [gdStep, if_pos h1]
      rw [hd]
      by_cases hok : okO n (s.2 ++ nxt s.1 (gq zs k 0) (gq zs k 1)) = true
      · have hx : inB (gq zs k 1) (-1) (n - 1) = true := by
          unfold okO at hok
          simp only [Bool.and_eq_true, decide_eq_true_eq] at hok
          simp only [inB, Bool.and_eq_true, decide_eq_true_eq]
          by_cases hm : gq zs k 1 = -1
          · omega
          · have := allIn_mem hok.2 (z := gq zs k 1) (by simp [nxt, hm]); omega
        have hl : (s.2 ++ nxt s.1 (gq zs k 0) (gq zs k 1)).length ≤ 64 := by
          unfold okO at hok
          simp only [Bool.and_eq_true, decide_eq_true_eq] at hok
          exact hok.1
        rw [gsStep, if_pos ⟨h1, hx, hl⟩]
        show gsGo n zs _ ks = (gdGo zs _ ks).bind _
        refine ih _ (fun w hwm => ?_) hok
        rcases List.mem_append.1 hwm with hwm | hwm
        · exact hw w hwm
        · obtain rfl := List.mem_singleton.1 hwm
          have hwa := wordAt_all (p := gq zs k 0) hw
          by_cases hm : gq zs k 1 = -1
          · rw [nxt, if_pos hm]; exact hwa
          · rw [nxt, if_neg hm, allIn_iff]
            intro z hz
            rcases List.mem_append.1 hz with hz | hz
            · exact allIn_mem hwa hz
            · obtain rfl := List.mem_singleton.1 hz
              have := inB_eq hx
              simp only [if_true] at this
              omega
      · have hs : gsStep n zs s k = none := by
          rw [gsStep, if_neg]
          rintro ⟨_, hx, hl⟩
          refine hok ?_
          have hwa := wordAt_all (p := gq zs k 0) hw
          have hx' := inB_eq hx
          simp only [if_true] at hx'
          unfold okO at ho ⊢
          simp only [Bool.and_eq_true, decide_eq_true_eq] at ho ⊢
          refine ⟨hl, (allIn_iff _ _ _).2 fun z hz => ?_⟩
          rcases List.mem_append.1 hz with hz | hz
          · exact allIn_mem ho.2 hz
          · by_cases hm : gq zs k 1 = -1
            · rw [nxt, if_pos hm] at hz; exact allIn_mem hwa hz
            · rw [nxt, if_neg hm] at hz
              rcases List.mem_append.1 hz with hz | hz
              · exact allIn_mem hwa hz
              · obtain rfl := List.mem_singleton.1 hz; omega
        rw [hs]
        show none = (gdGo zs _ ks).bind _
        cases hr : gdGo zs (s.1 ++ [nxt s.1 (gq zs k 0) (gq zs k 1)], s.2 ++ nxt s.1 (gq zs k 0) (gq zs k 1)) ks with
        | none => rfl
        | some r =>
          obtain ⟨t, ht⟩ := gdGo_pre hr
          show none = if okO n r.2 = true then some r else none
          rw [if_neg]
          intro h
          rw [ht] at h
          exact hok (okO_app h)
    · rw [gdStep, if_neg h1, gsStep, if_neg (fun h => h1 h.1)]; rfl
def gsF (n : Int) (zs : List Int) (ks : List Nat) : Option Gt := gsGo n zs gd0 ks
def gtOk0 (zs : List Int) (n : Int) : Bool := sgn n && (decide (zs.length % 2 = 0) && decide (zs.length ≤ 128))
def gtO (zs : List Int) (n : Int) : Option (List Int) := if gtOk0 zs n = true then (gdF zs (List.range (zs.length / 2))).bind fun r => if txt r.2 n = true ∧ eqL (gpF r.2 [] [] 0) zs = true then some r.2 else none else none
def gtZ (zs : List Int) (n : Int) : List Int := (gtO zs n).getD []
def gtOk (zs : List Int) (n : Int) : Bool := (gtO zs n).isSome
theorem gt_none {zs : List Int} {n : Int} (h : gtO zs n = none) : gtZ zs n = [] ∧ gtOk zs n = false := by unfold gtZ gtOk; rw [h]; exact ⟨rfl, rfl⟩
theorem gt_some {zs r : List Int} {n : Int} (h : gtO zs n = some r) : gtZ zs n = r ∧ gtOk zs n = true := by unfold gtZ gtOk; rw [h]; exact ⟨rfl, rfl⟩
theorem gtZ_len (zs : List Int) (n : Int) : (gtZ zs n).length ≤ 16777216 := by
  unfold gtZ gtO
  split
  · cases gdF zs (List.range (zs.length / 2)) with
    | none => simp
    | some r =>
      show ((if txt r.2 n = true ∧ eqL (gpF r.2 [] [] 0) zs = true then some r.2 else none).getD []).length ≤ _
      split
      · rename_i h
        have h1 := h.1
        simp only [txt, Bool.and_eq_true, decide_eq_true_eq] at h1
        show r.2.length ≤ _
        omega
      · simp
  · simp
theorem txt_okO {n : Int} {o : List Int} (hs : sgn n = true) : txt o n = okO n o := by unfold txt okO; rw [hs, Bool.true_and]
theorem gt_eq (zs : List Int) (n : Int) (h : gtOk0 zs n = true) : gtO zs n = (gsF n zs (List.range (zs.length / 2))).bind fun r => if eqL (grF r.2 [[]] [] 0) zs = true then some r.2 else none := by
  have hs : sgn n = true := by unfold gtOk0 at h; simp only [Bool.and_eq_true] at h; exact h.1
  have hs' := inB_eq hs
  simp only [if_true] at hs'
  have h0 := gs_gd n (by omega) zs (List.range (zs.length / 2)) gd0 (fun w hw => by obtain rfl := List.mem_singleton.1 hw; rfl) (by unfold okO gd0; rfl)
  rw [gtO, if_pos h, gsF, h0, gdF]
  cases gdGo zs gd0 (List.range (zs.length / 2)) with
  | none => rfl
  | some r =>
    show (if txt r.2 n = true ∧ eqL (gpF r.2 [] [] 0) zs = true then some r.2 else none) = (if okO n r.2 = true then some r else none).bind _
    rw [txt_okO hs]
    by_cases ho : okO n r.2 = true
    · rw [if_pos ho]
      show _ = if eqL (grF r.2 [[]] [] 0) zs = true then some r.2 else none
      rw [gr_gp Grow.nil (Int.le_refl _) (by simp) []]
      simp [ho]
    · rw [if_neg ho, if_neg (fun h => ho h.1)]; rfl
theorem gsGo_app (n : Int) (zs : List Int) (s : Gt) (ks js : List Nat) : gsGo n zs s (ks ++ js) = (gsGo n zs s ks).bind fun t => gsGo n zs t js := by
  induction ks generalizing s with
  | nil => rfl
  | cons k ks ih =>
    rw [List.cons_append, gsGo, gsGo]
    cases gsStep n zs s k with
    | none => rfl
    | some t => exact ih t
theorem gsF_snoc (n : Int) (zs : List Int) (ks : List Nat) (k : Nat) : gsF n zs (ks ++ [k]) = (gsF n zs ks).bind fun s => gsStep n zs s k := by
  unfold gsF; rw [gsGo_app]
  congr 1; funext s
  show (gsStep n zs s k).bind _ = _
  cases gsStep n zs s k <;> rfl
theorem gsF_none_le {n : Int} {zs : List Int} {k q : Nat} (hk : k ≤ q) (h : gsF n zs (List.range k) = none) : gsF n zs (List.range q) = none := by
  obtain ⟨d, rfl⟩ := Nat.exists_eq_add_of_le hk
  clear hk
  induction d with
  | zero => exact h
  | succ d ih => rw [← Nat.add_assoc, List.range_succ, gsF_snoc, ih]; rfl
end Go.Proofs.Ytjeakgakpioieaa
