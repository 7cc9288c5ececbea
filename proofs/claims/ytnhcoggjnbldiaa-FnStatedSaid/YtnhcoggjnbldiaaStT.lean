/- StateText: what both packages return. No conditions but that the slices read. -/
import Derived.Test.YtnhcoggjnbldiaaSprS
import Derived.Test.YtnhcoggjnbldiaaOwn
namespace Go.Proofs.Ytnhcoggjnbldiaa
open Go.RowKit
set_option maxRecDepth 100000
set_option linter.unusedVariables false
set_option linter.unusedSimpArgs false

def bF (bs : List Bool) (i : Nat) : Nat := if bs.getD i false = true then 1 else 0
theorem bF_le (bs : List Bool) (i : Nat) : bF bs i ≤ 1 := by unfold bF; split <;> omega
def refF (N : Nat) (bs : List Bool) : Nat → Nat → Option (Nat × Nat)
  | 0, st => if st < N then none else some (st, 0)
  | l + 1, st => if st < N then refF N bs l (2 * st + bF bs l) else some (st, l + 1)
theorem refF_out (N : Nat) (bs : List Bool) (l st : Nat) (h : ¬ st < N) : refF N bs l st = some (st, l) := by cases l <;> rw [refF, if_neg h]
theorem refF_zero (N : Nat) (bs : List Bool) (st : Nat) (h : st < N) : refF N bs 0 st = none := by rw [refF, if_pos h]
theorem refF_in (N : Nat) (bs : List Bool) (l st : Nat) (h : st < N) : refF N bs (l + 1) st = refF N bs l (2 * st + bF bs l) := by rw [refF, if_pos h]
def letP (tb : List Int) (p : Nat) : Nat := (tb.getD p 0).toNat
def cnt (tb : List Int) (L : Int) (p : Nat) : Nat := (tb.take p).countP (· == L)
theorem cnt_zero (tb : List Int) (L : Int) : cnt tb L 0 = 0 := by simp [cnt]
theorem cnt_yes (tb : List Int) (L : Int) (k : Nat) (hk : k < tb.length) (h : tb[k] = L) : cnt tb L (k + 1) = cnt tb L k + 1 := by
  unfold cnt; rw [List.take_succ_eq_append_getElem hk, List.countP_append]; simp [h]
theorem cnt_no (tb : List Int) (L : Int) (k : Nat) (hk : k < tb.length) (h : ¬ tb[k] = L) : cnt tb L (k + 1) = cnt tb L k := by
  unfold cnt; rw [List.take_succ_eq_append_getElem hk, List.countP_append]; simp [h]
theorem cnt_le (tb : List Int) (L : Int) (p : Nat) : cnt tb L p ≤ p := by
  unfold cnt
  refine Nat.le_trans List.countP_le_length ?_
  rw [List.length_take]; omega
def nxS (tb zs : List Int) (p : Nat) : Nat := (zs.getD (letP tb p) 0).toNat + cnt tb (tb.getD p 0) p
def stF (N : Nat) (tb zs : List Int) (bs : List Bool) : Nat → Nat → Nat → List Int → Option (List Int)
  | 0, st, l, out => if l = 0 ∧ st = N then some out else none
  | c + 1, st, l, out => (refF N bs l (nxS tb zs (st - N))).bind fun q => stF N tb zs bs c q.1 q.2 (out ++ [tb.getD (st - N) 0])
theorem stF_len (N : Nat) (tb zs : List Int) (bs : List Bool) (c st l : Nat) (out r : List Int) (h : stF N tb zs bs c st l out = some r) : r.length = out.length + c := by
  induction c generalizing st l out with
  | zero =>
    rw [stF] at h
    split at h
    · injection h with h; subst h; rfl
    · cases h
  | succ c ih =>
    rw [stF, Option.bind_eq_some_iff] at h
    obtain ⟨q, -, h⟩ := h
    have := ih _ _ _ h
    rw [List.length_append] at this; simp at this; omega
theorem stF_step (N : Nat) (tb zs : List Int) (bs : List Bool) (c q l L sh : Nat) (out : List Int) (hq : q < tb.length) (hL : tb[q] = (L : Int)) (hl : L < zs.length) (hz : zs[L] = (sh : Int)) :
    stF N tb zs bs (c + 1) (N + q) l out = (refF N bs l (sh + cnt tb (L : Int) q)).bind fun x => stF N tb zs bs c x.1 x.2 (out ++ [(L : Int)]) := by
  have e1 : tb.getD q 0 = (L : Int) := by rw [List.getD_eq_getElem?_getD, List.getElem?_eq_getElem hq, ← hL]; rfl
  have e2 : zs.getD L 0 = (sh : Int) := by rw [List.getD_eq_getElem?_getD, List.getElem?_eq_getElem hl, ← hz]; rfl
  rw [stF, Nat.add_sub_cancel_left, nxS, letP, e1, Int.toNat_natCast, e2, Int.toNat_natCast]
theorem sum_ge {zs : List Int} (h : ∀ z ∈ zs, 0 ≤ z) : 0 ≤ sumL zs ∧ ∀ z ∈ zs, z ≤ sumL zs := by
  induction zs with
  | nil => exact ⟨Int.le_refl _, fun z hz => by cases hz⟩
  | cons a t ih =>
    have h1 := ih fun z hz => h z (List.mem_cons_of_mem _ hz)
    have h2 := h a (by simp)
    rw [sumL]
    refine ⟨by omega, fun z hz => ?_⟩
    rcases List.mem_cons.1 hz with rfl | hz
    · omega
    · have := h1.2 z hz; omega
theorem spO_lt {M : Int} (hM0 : 0 ≤ M) (N st i : Nat) (zs : List Int) (hM : (i : Int) + zs.length ≤ M + 1) (s : Sp) (h : Small M s.out) : Small M (spO N st i zs s).out := by
  induction zs generalizing i s with
  | nil => exact h
  | cons z zs ih =>
    rw [List.length_cons] at hM
    rw [spO]
    exact ih (i + 1) (by omega) _ (spI_in N st (by omega) _ _ h)
theorem spr_lt (n : Nat) (zs : List Int) (h0 : 1 ≤ zs.length) (k : Nat) (hk : k < (spr n zs).length) : ∃ L : Nat, (spr n zs)[k] = (L : Int) ∧ L < zs.length := by
  have h : Small ((zs.length : Int) - 1) (spr n zs) := spO_lt (by omega) _ _ 0 zs (by omega) _ fun z hz => by
    rw [List.eq_of_mem_replicate hz]; omega
  have := h _ (List.getElem_mem hk)
  exact ⟨((spr n zs)[k]).toNat, by omega, by omega⟩
def sxOk0 (p : Int) (zs : List Int) (bs : List Bool) (st cn : Int) : Bool := shs p zs && (decide (bs.length ≤ 1024) && (inB cn 0 64 && inB st (2 ^ p.toNat : Nat) (2 * (2 ^ p.toNat : Nat) - 1)))
def sxO (p : Int) (zs : List Int) (bs : List Bool) (st cn : Int) : Option (List Int) := if sxOk0 p zs bs st cn = true then stF (2 ^ p.toNat) (spr p.toNat zs) zs bs cn.toNat st.toNat bs.length [] else none
def sxZ (p : Int) (zs : List Int) (bs : List Bool) (st cn : Int) : List Int := (sxO p zs bs st cn).getD []
def sxOk (p : Int) (zs : List Int) (bs : List Bool) (st cn : Int) : Bool := (sxO p zs bs st cn).isSome
theorem sxZ_len (p : Int) (zs : List Int) (bs : List Bool) (st cn : Int) : (sxZ p zs bs st cn).length ≤ 16777216 := by
  unfold sxZ
  cases h : sxO p zs bs st cn with
  | none => simp
  | some r =>
    unfold sxO at h
    split at h
    · rename_i hk
      have hl := stF_len _ _ _ _ _ _ _ _ _ h
      simp only [sxOk0, inB, Bool.and_eq_true, decide_eq_true_eq] at hk
      simp at hl
      simp only [Option.getD_some]; omega
    · cases h
theorem sx_none {p : Int} {zs : List Int} {bs : List Bool} {st cn : Int} (h : sxO p zs bs st cn = none) : sxZ p zs bs st cn = [] ∧ sxOk p zs bs st cn = false := by
  unfold sxZ sxOk; rw [h]; exact ⟨rfl, rfl⟩
theorem sx_some {p : Int} {zs : List Int} {bs : List Bool} {st cn : Int} {r : List Int} (h : sxO p zs bs st cn = some r) : sxZ p zs bs st cn = r ∧ sxOk p zs bs st cn = true := by
  unfold sxZ sxOk; rw [h]; exact ⟨rfl, rfl⟩
set_option maxHeartbeats 400000 in
theorem bitAt_any (v : Value) (bs : List Bool) (i : Nat) (w : World) (h : Rg Value.bool w v bs) (hi : i < bs.length) :
    Calls Try.prog 43 #[v, .int .i64 i] w fun e w' => e = .returned (.int .i64 (bF bs i)) ∧ w = w' := by
  have hlen := h.len
  obtain ⟨ao, cap, rfl⟩ := h.shape
  obtain ⟨b, off, rfl, -, hcc⟩ := h.cells (by omega)
  have hci := hcc i hi
  have hbe : bF bs i = if bs[i] = true then 1 else 0 := by unfold bF; rw [List.getD_eq_getElem?_getD, List.getElem?_eq_getElem hi]; rfl
  have Hbe := Lib.hid hbe
  have HL := Lib.hid (show ((i : Int) < (bs.length : Int)) by omega)
  clear hcc hbe h
  generalize bs[i] = z at *
  have hlt : decide ((i : Int) < (bs.length : Int)) = true := decide_eq_true HL.out
  cases z
  · go_enter Try.func43, Try.ntmps43
    go_wp2
    go_ret
    exact ⟨ret_i64 (by rw [Hbe.out]; rfl), rfl⟩
  · go_enter Try.func43, Try.ntmps43
    go_wp2
    go_ret
    exact ⟨ret_i64 (by rw [Hbe.out]; rfl), rfl⟩
set_option maxHeartbeats 400000 in
theorem l05Bit_any (v : Value) (bs : List Bool) (i : Nat) (w : World) (h : Rg Value.bool w v bs) (hi : i < bs.length) :
    Calls Try.prog 44 #[v, .int .i64 i] w fun e w' => e = .returned (.int .i64 (bF bs i)) ∧ w = w' := by
  have hlen := h.len
  obtain ⟨ao, cap, rfl⟩ := h.shape
  obtain ⟨b, off, rfl, -, hcc⟩ := h.cells (by omega)
  have hci := hcc i hi
  have hbe : bF bs i = if bs[i] = true then 1 else 0 := by unfold bF; rw [List.getD_eq_getElem?_getD, List.getElem?_eq_getElem hi]; rfl
  have Hbe := Lib.hid hbe
  have HL := Lib.hid (show ((i : Int) < (bs.length : Int)) by omega)
  clear hcc hbe h
  generalize bs[i] = z at *
  have hlt : decide ((i : Int) < (bs.length : Int)) = true := decide_eq_true HL.out
  cases z
  · go_enter Try.func44, Try.ntmps44
    go_wp2
    go_ret
    exact ⟨ret_i64 (by rw [Hbe.out]; rfl), rfl⟩
  · go_enter Try.func44, Try.ntmps44
    go_wp2
    go_ret
    exact ⟨ret_i64 (by rw [Hbe.out]; rfl), rfl⟩
end Go.Proofs.Ytnhcoggjnbldiaa
