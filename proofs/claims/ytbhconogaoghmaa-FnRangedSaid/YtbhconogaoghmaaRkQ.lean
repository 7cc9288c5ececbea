/- What the functions of FnRanged return, of drawn counts and letters. Plain; conditions: 2 to 6 letters, counts from 1 to 900, fewer than 40 letters. -/
import Derived.Test.YtbhconogaoghmaaRkP
namespace Go.Proofs.Ytbhconogaoghmaa
open Go.RowKit Ieee
set_option maxRecDepth 100000
set_option linter.unusedVariables false
set_option linter.unusedSimpArgs false
set_option linter.unusedSectionVars false

theorem sum_900 {cs : List Int} (h : ∀ c ∈ cs, 1 ≤ c ∧ c ≤ 900) : sumL cs ≤ 900 * (cs.length : Int) := by
  induction cs with
  | nil => simp [sumL]
  | cons c cs ih =>
    have h1 := h c (by simp)
    have h2 := ih fun y hy => h y (List.mem_cons_of_mem _ hy)
    simp only [sumL, List.length_cons]; omega
theorem bump_g (cs : List Int) (k : Nat) (b : Int) : bump cs k b = bumpG cs k b := rfl
theorem coF_app (xs ys cs : List Int) : coF (xs ++ ys) cs = coF ys (coF xs cs) := by
  induction xs generalizing cs with
  | nil => rfl
  | cons x xs ih => rw [List.cons_append, coF, ih, coF]
theorem coF_next (zs cs : List Int) (k : Nat) (h : k < zs.length) : coF (zs.take (k + 1)) cs = bump (coF (zs.take k) cs) zs[k].toNat 1 := by
  rw [List.take_succ_eq_append_getElem h, coF_app]; rfl
/-- Counts that have grown by some letters. -/
theorem coF_ok (zs cs : List Int) (hp : Pos cs) (hz : ∀ z ∈ zs, 0 ≤ z ∧ z < cs.length) : Pos (coF zs cs) ∧ (coF zs cs).length = cs.length ∧ sumL (coF zs cs) = sumL cs + zs.length := by
  induction zs generalizing cs with
  | nil => exact ⟨hp, rfl, by simp [coF]⟩
  | cons z zs ih =>
    have hz0 := hz z (by simp)
    have hl : z.toNat < cs.length := by omega
    have h1 := bumpG_pos hp hl (g := 1) (by omega)
    have h2 := bumpG_sum hl 1
    have h3 := bumpG_len cs z.toNat 1
    rw [← bump_g] at h1 h2 h3
    obtain ⟨a, b, c⟩ := ih (bump cs z.toNat 1) h1 (fun y hy => by rw [h3]; exact hz y (List.mem_cons_of_mem _ hy))
    rw [coF]
    exact ⟨a, by rw [b, h3], by rw [c, h2, List.length_cons]; omega⟩
theorem le_sum {cs : List Int} (hp : Pos cs) (c : Int) (hc : c ∈ cs) : c ≤ sumL cs := by
  induction cs with
  | nil => cases hc
  | cons d cs ih =>
    have h0 := sumL_pos (cs := cs) fun y hy => hp y (List.mem_cons_of_mem _ hy)
    rcases List.mem_cons.1 hc with rfl | hc
    · simp only [sumL]; omega
    · have := ih (fun y hy => hp y (List.mem_cons_of_mem _ hy)) hc
      have := hp d (by simp)
      simp only [sumL]; omega
theorem cts_of' {l : Nat} {cs : List Int} (h2 : 2 ≤ l) (h6 : l ≤ 6) (hl : cs.length = l) (hp : Pos cs) (hs : sumL cs ≤ 16384) : cts (l : Int) cs = true :=
  cts_mk (by omega) (by omega) (by omega) (fun z hz => ⟨hp z hz, by have := le_sum hp z hz; omega⟩) hs
/-- What holds of what was drawn. -/
structure Rkd (l : Nat) (cs zs : List Int) : Prop where
  l2 : 2 ≤ l
  l6 : l ≤ 6
  cl : cs.length = l
  c : ∀ c ∈ cs, 1 ≤ c ∧ c ≤ 900
  z : ∀ z ∈ zs, 0 ≤ z ∧ z < (l : Int)
  zl : zs.length ≤ 39
section
variable {l : Nat} {cs zs : List Int} (h : Rkd l cs zs)
include h
theorem Rkd.pos : Pos cs := fun c hc => (h.c c hc).1
theorem Rkd.sum : sumL cs ≤ 5400 := by
  have := sum_900 h.c
  rw [h.cl] at this
  have := h.l6
  omega
theorem Rkd.zc : ∀ z ∈ zs, 0 ≤ z ∧ z < cs.length := fun z hz => by rw [h.cl]; exact h.z z hz
theorem Rkd.cts : cts (l : Int) cs = true := cts_of' h.l2 h.l6 h.cl h.pos (by have := h.sum; omega)
theorem Rkd.txt : txt zs (l : Int) = true := by
  have h1 := h.l2
  have h2 := h.l6
  have h3 := h.zl
  simp only [Go.Proofs.Ytbhconogaoghmaa.txt, sgn, inB, Bool.and_eq_true, decide_eq_true_eq, allIn_iff]
  exact ⟨⟨⟨by omega, by omega⟩, by omega⟩, fun z hz => by have := h.z z hz; omega⟩
theorem Rkd.one : Pos (ones l) ∧ (ones l).length = l ∧ sumL (ones l) = l := ⟨ones_pos l, by simp [ones], ones_sum l⟩
theorem Rkd.z1 : ∀ z ∈ zs, 0 ≤ z ∧ z < (ones l).length := fun z hz => by rw [h.one.2.1]; exact h.z z hz
theorem Rkd.rb0 : (rb 0 cs zs).length ≤ 700 := by
  have h3 := h.zl
  have h4 := h.sum
  have := rbF_len 0 zs cs ⟨0, 65535, 0, []⟩ 0 ⟨by decide, by decide, by decide, by decide, by decide⟩ h.pos (by decide) (by omega) h.zc
  unfold rb; omega
theorem Rkd.rb1 : (rb 16 (ones l) zs).length ≤ 700 := by
  have h3 := h.zl
  have h4 := h.one
  have h6 := h.l6
  have := rbF_len 16 zs (ones l) ⟨0, 65535, 0, []⟩ 0 ⟨by decide, by decide, by decide, by decide, by decide⟩ h.one.1 (by decide) (by omega) h.z1
  unfold rb; omega
theorem Rkd.rg : rgOk (l : Int) cs zs = true ∧ rgZ (l : Int) cs zs = rb 0 cs zs := by
  have h1 : rgOk (l : Int) cs zs = true := by
    unfold rgOk rbOk
    rw [h.cts, h.txt]
    have := h.rb0
    simp; omega
  exact ⟨h1, by rw [rgZ, if_pos h1]⟩
theorem Rkd.rx : rxOk (l : Int) cs (rb 0 cs zs) (zs.length : Int) = true ∧ rxZ (l : Int) cs (rb 0 cs zs) (zs.length : Int) = zs := by
  have h3 := h.zl
  have h4 := h.sum
  have h1 : rxOk (l : Int) cs (rb 0 cs zs) (zs.length : Int) = true := by
    unfold rxOk inB
    rw [h.cts]
    have := h.rb0
    simp; omega
  exact ⟨h1, by rw [rxZ, if_pos h1, Int.toNat_natCast]; exact rt_rb 0 cs zs h.pos (by decide) (by omega) h.zc⟩
theorem Rkd.gw : gwOk (l : Int) zs = true ∧ gwZ (l : Int) zs = rb 16 (ones l) zs := by
  have h1 : gwOk (l : Int) zs = true := by
    unfold gwOk rbOk
    rw [h.txt, Int.toNat_natCast]
    have := h.rb1
    simp; omega
  exact ⟨h1, by rw [gwZ, if_pos h1, Int.toNat_natCast]⟩
theorem Rkd.gx : gxOk (l : Int) (rb 16 (ones l) zs) (zs.length : Int) = true ∧ gxZ (l : Int) (rb 16 (ones l) zs) (zs.length : Int) = zs := by
  have h3 := h.zl
  have h4 := h.one
  have h5 := h.l2
  have h6 := h.l6
  have h1 : gxOk (l : Int) (rb 16 (ones l) zs) (zs.length : Int) = true := by
    unfold gxOk sgn inB
    have := h.rb1
    simp; omega
  exact ⟨h1, by rw [gxZ, if_pos h1, Int.toNat_natCast, Int.toNat_natCast]; exact rt_rb 16 (ones l) zs h4.1 (by decide) (by omega) h.z1⟩
theorem Rkd.none : Rkd l cs [] := ⟨h.l2, h.l6, h.cl, h.c, (fun z hz => by cases hz), by decide⟩
theorem Rkd.lg (c : Int) (c1 : 1 ≤ c) (c8 : c ≤ 8) : lgOk (l : Int) [zs, []] c = true ∧ lgZ (l : Int) [zs, []] c = [((rb 16 (ones l) zs).length : Int), ((gwZ (l : Int) []).length : Int)] := by
  have h5 := h.l2
  have h6 := h.l6
  have h1 : lgOk (l : Int) [zs, []] c = true := by
    unfold lgOk sgn inB
    simp [h.gw.1, h.none.gw.1]; omega
  exact ⟨h1, by rw [lgZ, if_pos h1]; simp [lgF, h.gw.2]⟩
theorem Rkd.ev : sgn (l : Int) = true ∧ evN (l : Int) = l ∧ evZ (l : Int) = ones l := by
  have h5 := h.l2
  have h6 := h.l6
  have h1 : sgn (l : Int) = true := by unfold sgn inB; simp; omega
  exact ⟨h1, by rw [evN, if_pos h1], by rw [evZ, if_pos h1, Int.toNat_natCast]⟩
theorem Rkd.co : coN zs (l : Int) = l ∧ coZ zs (l : Int) = coF zs (ones l) := ⟨by rw [coN, if_pos h.txt], by rw [coZ, if_pos h.txt, Int.toNat_natCast]⟩
theorem Rkd.grow (k : Nat) : (coF (zs.take k) (ones l)).length = l ∧ Go.Proofs.Ytbhconogaoghmaa.cts (l : Int) (coF (zs.take k) (ones l)) = true := by
  have h4 := h.one
  have h6 := h.l6
  have h3 := h.zl
  obtain ⟨a, b, c⟩ := coF_ok (zs.take k) (ones l) h4.1 (fun z hz => h.z1 z (List.mem_of_mem_take hz))
  have hk : (zs.take k).length ≤ 39 := by rw [List.length_take]; omega
  exact ⟨by rw [b, h4.2.1], cts_of' h.l2 h.l6 (by rw [b, h4.2.1]) a (by omega)⟩
theorem Rkd.cts1 : Go.Proofs.Ytbhconogaoghmaa.cts (l : Int) (ones l) = true := (h.grow 0).2
theorem Rkd.cts2 : Go.Proofs.Ytbhconogaoghmaa.cts (l : Int) (coF zs (ones l)) = true := by
  have := (h.grow zs.length).2
  rwa [List.take_length] at this
theorem Rkd.put (k : Nat) (hk : k < zs.length) : puOk (l : Int) (coF (zs.take k) (ones l)) zs[k] 1 = true ∧ puN (l : Int) (coF (zs.take k) (ones l)) zs[k] 1 = l ∧ puZ (l : Int) (coF (zs.take k) (ones l)) zs[k] 1 = coF (zs.take (k + 1)) (ones l) := by
  have h5 := h.l2
  have hz := h.z zs[k] (List.getElem_mem hk)
  have h1 : puOk (l : Int) (coF (zs.take k) (ones l)) zs[k] 1 = true := by
    unfold puOk inB
    rw [(h.grow k).2, ← coF_next _ _ _ hk, (h.grow (k + 1)).2]
    simp; omega
  exact ⟨h1, by rw [puN, if_pos h1], by rw [puZ, if_pos h1, coF_next _ _ _ hk]⟩
theorem Rkd.ha : haN (l : Int) cs = l ∧ haZ (l : Int) cs = halve cs := ⟨by rw [haN, if_pos h.cts], by rw [haZ, if_pos h.cts]⟩
theorem Rkd.ct : ctOk (l : Int) cs zs = true ∧ ctV (l : Int) cs zs = ctT cs zs 0 := by
  have h1 : ctOk (l : Int) cs zs = true := by unfold ctOk; rw [h.cts, h.txt]; rfl
  exact ⟨h1, by rw [ctV, if_pos h1]⟩
theorem Rkd.len : LenOk (rb 0 cs zs).length zs.length (ctT cs zs 0) ∧ ∃ q, Num .f32 (ctT cs zs 0) q := by
  have h3 := h.zl
  have h4 := h.sum
  obtain ⟨Q, nQ, q0, q1, q2⟩ := len_bd cs zs h.pos (by omega) h.zc (by omega)
  exact ⟨len_ok (by omega) (by have := h.rb0; omega) nQ q0 q1 q2, Q, nQ⟩
end
theorem ctT_lt (zs ts : List Int) (s : Nat) (hs : s < 4294967296) : ctT zs ts s < 4294967296 := by
  induction ts generalizing s with
  | nil => exact hs
  | cons t ts ih =>
    rw [ctT]
    refine ih _ ?_
    unfold fadd oW
    cases h : floatBits .add .f32 s (costW (ratW (zs.getD t.toNat 0) (sumL zs))) with
    | none => decide
    | some z => exact Format.add_lt single h
end Go.Proofs.Ytbhconogaoghmaa
