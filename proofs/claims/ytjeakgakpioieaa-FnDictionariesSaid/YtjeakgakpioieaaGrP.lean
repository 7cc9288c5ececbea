/- Grown pairs: what both packages' loops compute, as plain functions. No conditions. -/
import Derived.Test.YtjeakgakpioieaaMem
namespace Go.Proofs.Ytjeakgakpioieaa
set_option maxRecDepth 100000
set_option linter.unusedVariables false
set_option linter.unusedSimpArgs false

/-- Where an entry lies. -/
def lookF : List (Int × Int) → (Int × Int) → Nat → Option Nat
  | [], _, _ => none
  | d :: ds, e, k => if d = e then some k else lookF ds e (k + 1)
def look (ds : List (Int × Int)) (e : Int × Int) : Option Nat := lookF ds e 0
theorem lookF_some {ds : List (Int × Int)} {e : Int × Int} {k j : Nat} (h : lookF ds e k = some j) : k ≤ j ∧ ds[j - k]? = some e := by
  induction ds generalizing k with
  | nil => cases h
  | cons d ds ih =>
    rw [lookF] at h
    by_cases hd : d = e
    · rw [if_pos hd] at h
      obtain rfl := Option.some.inj h
      exact ⟨Nat.le_refl _, by simp [hd]⟩
    · rw [if_neg hd] at h
      have := ih h
      refine ⟨by omega, ?_⟩
      rw [show j - k = (j - (k + 1)) + 1 by omega, List.getElem?_cons_succ]; exact this.2
theorem lookF_none {ds : List (Int × Int)} {e : Int × Int} {k : Nat} (h : lookF ds e k = none) : e ∉ ds := by
  induction ds generalizing k with
  | nil => simp
  | cons d ds ih =>
    rw [lookF] at h
    by_cases hd : d = e
    · rw [if_pos hd] at h; cases h
    · rw [if_neg hd] at h
      intro hm
      rcases List.mem_cons.1 hm with rfl | hm
      · exact hd rfl
      · exact ih h hm
/-- The program's way: a dictionary of entries. -/
def gpF : List Int → List (Int × Int) → List Int → Int → List Int
  | [], _, out, num => if 0 < num then out ++ [num, -1] else out
  | x :: xs, ds, out, num => match look ds (num, x) with
    | some k => gpF xs ds out ((k : Int) + 1)
    | none => gpF xs (ds ++ [(num, x)]) (out ++ [num, x]) 0
/-- The reference's: the last word that is the same, or -1. -/
def fndF : List (List Int) → List Int → Nat → Int → Int
  | [], _, _, f => f
  | w :: ws, n, k, f => fndF ws n (k + 1) (if w = n then (k : Int) else f)
def wordAt (ws : List (List Int)) (k : Int) : List Int := ws[k.toNat]?.getD []
def grF : List Int → List (List Int) → List Int → Int → List Int
  | [], _, out, now => if 0 < now then out ++ [now, -1] else out
  | x :: xs, ws, out, now =>
    if 0 ≤ fndF ws (wordAt ws now ++ [x]) 0 (-1) then grF xs ws out (fndF ws (wordAt ws now ++ [x]) 0 (-1))
    else grF xs (ws ++ [wordAt ws now ++ [x]]) (out ++ [now, x]) 0
theorem fndF_none {ws : List (List Int)} {n : List Int} (h : n ∉ ws) (k : Nat) (f : Int) : fndF ws n k f = f := by
  induction ws generalizing k f with
  | nil => rfl
  | cons w ws ih =>
    rw [fndF, if_neg (fun e => h (by rw [e]; simp)), ih (fun hm => h (List.mem_cons_of_mem _ hm))]
theorem fndF_one {ws : List (List Int)} {n : List Int} (hn : ws.Nodup) {j : Nat} (hj : ws[j]? = some n) (k : Nat) (f : Int) : fndF ws n k f = ((k + j : Nat) : Int) := by
  induction ws generalizing k f j with
  | nil => simp at hj
  | cons w ws ih =>
    rw [List.nodup_cons] at hn
    rw [fndF]
    cases j with
    | zero =>
      simp at hj
      subst hj
      rw [if_pos rfl, fndF_none hn.1]; rfl
    | succ j =>
      rw [List.getElem?_cons_succ] at hj
      have hmem : n ∈ ws := List.mem_of_getElem? hj
      rw [if_neg (fun e => hn.1 (by rw [e]; exact hmem)), ih hn.2 hj]
      congr 1; omega
/-- How the words belong to the entries. -/
structure Grow (ds : List (Int × Int)) (ws : List (List Int)) : Prop where
  len : ws.length = ds.length + 1
  zero : ws[0]? = some []
  nodup : ws.Nodup
  step : ∀ (j : Nat) (d : Int × Int), ds[j]? = some d → 0 ≤ d.1 ∧ d.1 ≤ (j : Int) ∧ ws[j + 1]? = some (wordAt ws d.1 ++ [d.2])
theorem Grow.nil : Grow [] [[]] := ⟨rfl, rfl, by simp, fun j d h => by simp at h⟩
theorem wordAt_app {ws : List (List Int)} {k : Int} (n : List Int) (h : k.toNat < ws.length) : wordAt (ws ++ [n]) k = wordAt ws k := by
  unfold wordAt; rw [List.getElem?_append_left h]
/-- A word is there if and only if its entry is. -/
theorem Grow.mem {ds : List (Int × Int)} {ws : List (List Int)} (h : Grow ds ws) {num x : Int} (h0 : 0 ≤ num) (h1 : num ≤ ds.length) {k : Nat} (hk : ws[k]? = some (wordAt ws num ++ [x])) : ∃ j, k = j + 1 ∧ ds[j]? = some (num, x) := by
  cases k with
  | zero => rw [h.zero] at hk; simp at hk
  | succ j =>
    have hjl : j < ds.length := by
      have := (List.getElem?_eq_some_iff.1 hk).1
      rw [h.len] at this; omega
    obtain ⟨d, hd⟩ : ∃ d, ds[j]? = some d := ⟨ds[j], List.getElem?_eq_getElem hjl⟩
    obtain ⟨s0, s1, s2⟩ := h.step j d hd
    rw [s2] at hk
    have he := List.append_inj' (Option.some.inj hk) rfl
    have h2 : d.2 = x := by simpa using he.2
    have hl1 : d.1.toNat < ws.length := by rw [h.len]; omega
    have hl2 : num.toNat < ws.length := by rw [h.len]; omega
    have h3 : ws[d.1.toNat] = ws[num.toNat] := by
      have := he.1
      unfold wordAt at this
      rw [List.getElem?_eq_getElem hl1, List.getElem?_eq_getElem hl2] at this
      simpa using this
    have h4 : d.1.toNat = num.toNat := (List.getElem_inj h.nodup).1 h3
    refine ⟨j, rfl, ?_⟩
    rw [hd]
    congr 1
    ext
    · show d.1 = num; omega
    · exact h2
theorem Grow.push {ds : List (Int × Int)} {ws : List (List Int)} (h : Grow ds ws) {num x : Int} (h0 : 0 ≤ num) (h1 : num ≤ ds.length) (hx : look ds (num, x) = none) : Grow (ds ++ [(num, x)]) (ws ++ [wordAt ws num ++ [x]]) := by
  have hl2 : num.toNat < ws.length := by rw [h.len]; omega
  have hnm : wordAt ws num ++ [x] ∉ ws := fun hm => by
    obtain ⟨k, hk, e⟩ := List.getElem_of_mem hm
    obtain ⟨j, _, hd⟩ := h.mem h0 h1 (k := k) (by rw [List.getElem?_eq_getElem hk, e])
    exact lookF_none hx (List.mem_of_getElem? hd)
  refine ⟨by simp [h.len], ?_, ?_, fun j d hd => ?_⟩
  · rw [List.getElem?_append_left (by rw [h.len]; omega)]; exact h.zero
  · rw [List.nodup_append]
    refine ⟨h.nodup, by simp, fun a ha b hb => ?_⟩
    obtain rfl := List.mem_singleton.1 hb
    exact fun e => hnm (by rw [← e]; exact ha)
  · by_cases hj : j < ds.length
    · rw [List.getElem?_append_left hj] at hd
      obtain ⟨s0, s1, s2⟩ := h.step j d hd
      refine ⟨s0, s1, ?_⟩
      rw [List.getElem?_append_left (by rw [h.len]; omega), s2, wordAt_app _ (by rw [h.len]; omega)]
    · have hje : j = ds.length := by
        have := (List.getElem?_eq_some_iff.1 hd).1
        simp at this; omega
      subst hje
      simp at hd
      subst hd
      refine ⟨h0, h1, ?_⟩
      rw [List.getElem?_append_right (by rw [h.len]; omega), h.len, Nat.sub_self, wordAt_app _ hl2]; rfl
/-- Both ways come to the same pairs. -/
theorem gr_gp {xs : List Int} {ds : List (Int × Int)} {ws : List (List Int)} (h : Grow ds ws) {num : Int} (h0 : 0 ≤ num) (h1 : num ≤ ds.length) (out : List Int) : grF xs ws out num = gpF xs ds out num := by
  induction xs generalizing ds ws num out with
  | nil => rfl
  | cons x xs ih =>
    rw [grF, gpF]
    cases hx : look ds (num, x) with
    | some k =>
      obtain ⟨_, hk⟩ := lookF_some hx
      rw [Nat.sub_zero] at hk
      have hs := (h.step k _ hk).2.2
      have hf := fndF_one h.nodup hs 0 (-1)
      simp only [hf]
      rw [if_pos (by omega)]
      have hkl := (List.getElem?_eq_some_iff.1 hk).1
      have e : ((0 + (k + 1) : Nat) : Int) = (k : Int) + 1 := by omega
      rw [e]
      exact ih h (by omega) (by omega) out
    | none =>
      have hnm : wordAt ws num ++ [x] ∉ ws := fun hm => by
        obtain ⟨k, hk, e⟩ := List.getElem_of_mem hm
        obtain ⟨j, _, hd⟩ := h.mem h0 h1 (k := k) (by rw [List.getElem?_eq_getElem hk, e])
        exact lookF_none hx (List.mem_of_getElem? hd)
      rw [fndF_none hnm, if_neg (by omega)]
      exact ih (h.push h0 h1 hx) (by omega) (by simp; omega) _
end Go.Proofs.Ytjeakgakpioieaa
