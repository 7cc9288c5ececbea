/- What FnRanged asks: bits and cost, counts, the letters that come back. Plain; conditions: 2 to 6 letters, counts from 1 to 900, fewer than 40 letters. -/
import Derived.Test.YtbhconogaoghmaaRlP
import Derived.Test.YtbhconogaoghmaaLong
import Derived.Test.YtbhconogaoghmaaRngU
import Derived.Test.YtbhconogaoghmaaPut
namespace Go.Proofs.Ytbhconogaoghmaa
open Go.RowKit Ieee
set_option maxRecDepth 100000
set_option linter.unusedVariables false
set_option linter.unusedSimpArgs false

theorem lnb_ln2 : lnbQ ≤ ln2Q + 1 / 100000000 ∧ 2 / 3 ≤ ln2Q ∧ 2 / 3 ≤ lnbQ ∧ ln2Q ≤ 7 / 10 := by refine ⟨?_, ?_, ?_, ?_⟩ <;> decide +kernel
/-- What a letter costs at least. -/
theorem cost_ge {c T : Int} (h1 : 1 ≤ c) (h2 : c ≤ T) (h3 : T ≤ 5461) : ∃ C, Num .f32 (costW (ratW c T)) C ∧ 0 ≤ C ∧ C ≤ 21 ∧ -Lr ((c : Rat) / (T : Rat)) ≤ C * lnbQ + 1 / 50000 := by
  obtain ⟨-, a, na, a0, ra⟩ := rat_num h1 h2 (by omega)
  have cc1 : (1 : Rat) ≤ (c : Rat) := le_cast h1
  have ccT : (c : Rat) ≤ (T : Rat) := le_cast h2
  have cT2 : (T : Rat) ≤ 5461 := le_cast h3
  have hq := Rat.div_mul_cancel (a := (c : Rat)) (b := (T : Rat)) (by grind)
  generalize (c : Rat) / (T : Rat) = q at *
  generalize (c : Rat) = d at *
  generalize (T : Rat) = t at *
  have t0 : 0 < t := by grind
  have q1 : q ≤ 1 := (le_mul_cancel t0).1 (by grind)
  have q0 : 1 / 5461 ≤ q := (le_mul_cancel t0).1 (by rw [hq]; grind)
  have k13 : two (-13) ≤ 1 / 5461 := by decide +kernel
  have kq : two (-13) ≤ q := Rat.le_trans k13 q0
  have qp : 0 < q := by have := two_pos (-13); grind
  have a1 : a ≤ 1 := ra.up 1 ⟨1, 0, by decide, by decide, .inl (by decide +kernel)⟩ q1
  have a13 : two (-13) ≤ a := ra.dn _ (rep_two _ _ (by decide)) kq
  have e := ra.err0 (Rat.le_of_lt qp)
  have eb : q * two (-(pB .f32 : Int)) + two (loK .f32) ≤ q * (1 / 1000000) := by
    have k1 : two (loK .f32) ≤ two (-13) * (1 / 10000000) := by decide +kernel
    have k2 := Rat.mul_le_mul_of_nonneg_right kq (show (0 : Rat) ≤ 1 / 10000000 by decide +kernel)
    have k3 : two (-(pB .f32 : Int)) ≤ 1 / 8000000 := by decide +kernel
    have k4 := Rat.mul_le_mul_of_nonneg_left k3 (Rat.le_of_lt qp)
    grind
  have iq : In q := in_of (i := -13) (j := 0) (by decide) (by decide) kq q1
  have ia : In a := in_of (i := -13) (j := 0) (by decide) (by decide) a13 a1
  have l := lt_r ia iq
  have l1 : Lr a - Lr q - ep4 ≤ 1 / 1000000 := cancel_le qp (by grind)
  obtain ⟨lw, n1, ab⟩ := log_near na (Rat.le_trans (two_le (by decide)) a13) (Rat.le_trans (show a ≤ two 0 from a1) (two_le (by decide)))
  obtain ⟨lw2, n2, -, l20⟩ := log_nonpos na a0 a1
  obtain ⟨lw3, n3, l30⟩ := log_least na 13 (by decide) a13
  have e2 := n2.unique n1
  have e3 := n3.unique n1
  rw [e2] at l20
  rw [e3] at l30
  rw [show ((13 + 1 : Nat) : Rat) = 14 from rfl] at l30
  obtain ⟨lb1, lb2, lb3, lb4⟩ := lnb_ln2
  have hd := Rat.div_mul_cancel (a := -lw) (b := lnbQ) (by grind)
  have d0 : 0 ≤ -lw / lnbQ := le_div_of (by grind) (by grind)
  have d1 : -lw / lnbQ ≤ 21 := div_le_of (by grind) (by grind)
  have bd : Bd 5 (-lw / lnbQ) := by rw [Bd, show two 5 = 32 by decide +kernel]; constructor <;> grind
  obtain ⟨-, C, nC, rC⟩ := div_o (neg_num n1) num_lnb (by grind) (k0 := 5) (by decide) (by decide) bd
  have qq : two (-19 + 24) = 32 := by decide +kernel
  have ec := near32 (-19) (by decide) rC (by rw [qq]; grind) (by rw [qq]; grind)
  have c21 := rC.up 21 ⟨21, 0, by decide, by decide, .inl (by decide +kernel)⟩ d1
  refine ⟨C, nC, rC.nonneg d0, c21, ?_⟩
  obtain ⟨b1, b2⟩ := ab
  have t19 : two (-19) ≤ 1 / 500000 ∧ two (-18) ≤ 1 / 250000 := by constructor <;> decide +kernel
  have h15 := t15.2
  have lbp : lnbQ ≤ 1 := by have := lnb_bd; grind
  generalize -lw / lnbQ = x at *
  have m := Rat.mul_le_mul_of_nonneg_right ec.2 (show 0 ≤ lnbQ by grind)
  have m2 := Rat.mul_le_mul_of_nonneg_left lbp (show 0 ≤ two (-19) from Rat.le_of_lt (two_pos _))
  grind
/-- The cost of a text is not below the logarithms. -/
theorem ct_ge (cs : List Int) (hp : Pos cs) (hs : sumL cs ≤ 5461) (ts : List Int) (s : Nat) (Q : Rat) (i : Nat) (hz : ∀ z ∈ ts, 0 ≤ z ∧ z < cs.length) (hi : i + ts.length ≤ 40) (hQ : Num .f32 s Q) (h0 : 0 ≤ Q) (h1 : Q ≤ 22 * (i : Rat)) :
    ∃ Q', Num .f32 (ctT cs ts s) Q' ∧ 0 ≤ Q' ∧ Q' ≤ 880 ∧ lamS cs ts ≤ (Q' - Q) * lnbQ + (ts.length : Rat) * (1 / 10000) := by
  induction ts generalizing s Q i with
  | nil =>
    refine ⟨Q, hQ, h0, ?_, ?_⟩
    · have hi2 : (i : Rat) ≤ ((40 : Nat) : Rat) := Rat.natCast_le_natCast.2 (by simpa using hi)
      rw [show ((40 : Nat) : Rat) = 40 from rfl] at hi2
      grind
    · rw [lamS, show (([] : List Int).length : Rat) = 0 from rfl]; grind
  | cons z ts ih =>
    have hz0 := hz z (by simp)
    have hl : z.toNat < cs.length := by omega
    have hbn := befo_next hp hl
    have hb0 := (befo_bd hp z.toNat).1
    obtain ⟨C, nC, C0, C1, C2⟩ := cost_ge (c := git cs z.toNat) (T := sumL cs) hbn.1 (by omega) hs
    have hgD : cs.getD z.toNat 0 = git cs z.toNat := by rw [git, List.getD_eq_getElem?_getD]
    rw [ctT, hgD]
    rw [List.length_cons] at hi
    have hi2 : (i : Rat) ≤ ((39 : Nat) : Rat) := Rat.natCast_le_natCast.2 (by omega)
    rw [show ((39 : Nat) : Rat) = 39 from rfl] at hi2
    have bd : Bd 10 (Q + C) := by rw [Bd, show two 10 = 1024 by decide +kernel]; constructor <;> grind
    obtain ⟨-, R, nR, rR⟩ := add_o hQ nC (k0 := 10) (by decide) bd
    have qq : two (-14 + 24) = 1024 := by decide +kernel
    have er := near32 (-14) (by decide) rR (by rw [qq]; grind) (by rw [qq]; grind)
    have t14 : two (-14) ≤ 1 / 16000 := by decide +kernel
    have e1 : ((i + 1 : Nat) : Rat) = (i : Rat) + 1 := by rw [Rat.natCast_add]; rfl
    obtain ⟨Q', n', q0, q1, q2⟩ := ih (fadd .f32 s (costW (ratW (git cs z.toNat) (sumL cs)))) R (i + 1) (fun y hy => hz y (List.mem_cons_of_mem _ hy)) (by omega) nR (rR.nonneg (by grind)) (by rw [e1]; grind)
    refine ⟨Q', n', q0, q1, ?_⟩
    have e2 : ((ts.length + 1 : Nat) : Rat) = (ts.length : Rat) + 1 := by rw [Rat.natCast_add]; rfl
    rw [lamS, List.length_cons, e2]
    obtain ⟨lb1, lb2, lb3, lb4⟩ := lnb_ln2
    have m := Rat.mul_le_mul_of_nonneg_right er.2 (show 0 ≤ lnbQ by grind)
    have lbp : lnbQ ≤ 1 := by have := lnb_bd; grind
    have m2 := Rat.mul_le_mul_of_nonneg_left lbp (show 0 ≤ two (-14) from Rat.le_of_lt (two_pos _))
    generalize lamS cs ts = S at *
    generalize Lr ((git cs z.toNat : Rat) / (sumL cs : Rat)) = G at *
    generalize (ts.length : Rat) = nz at *
    grind
/-- No more bits than the cost, nearly. -/
theorem len_bd (cs zs : List Int) (hp : Pos cs) (hs : sumL cs ≤ 5461) (hz : ∀ z ∈ zs, 0 ≤ z ∧ z < cs.length) (hl : zs.length ≤ 40) :
    ∃ Q, Num .f32 (ctT cs zs 0) Q ∧ 0 ≤ Q ∧ Q ≤ 880 ∧ ((rb 0 cs zs).length : Rat) ≤ Q + 3 + (zs.length : Rat) * (11 / 20) := by
  obtain ⟨Q, nQ, q0, q1, q2⟩ := ct_ge cs hp hs zs 0 0 0 hz (by omega) (num_zero .f32) (by decide) (by decide +kernel)
  have b := bits_bd zs cs ⟨0, 65535, 0, []⟩ ⟨by decide, by decide, by decide, by decide⟩ hp hs hz
  dsimp only at b
  rw [show ((65535 - 0 + 1 : Int) : Rat) = 65536 from rfl, show (([] : List Bool).length + 0 : Nat) = 0 from rfl, show ((0 : Nat) : Rat) = 0 from rfl] at b
  refine ⟨Q, nQ, q0, q1, ?_⟩
  have n0 : (0 : Rat) ≤ (zs.length : Rat) := Rat.natCast_nonneg
  have hep := t15.2
  obtain ⟨lb1, lb2, lb3, lb4⟩ := lnb_ln2
  have e : rbF 0 zs cs ⟨0, 65535, 0, []⟩ = rb 0 cs zs := rfl
  rw [e] at b
  generalize ((rb 0 cs zs).length : Rat) = L at *
  generalize lamS cs zs = S at *
  generalize (zs.length : Rat) = n at *
  have m := Rat.mul_le_mul_of_nonneg_left lb1 q0
  have k : (L - 2) * ln2Q ≤ (Q + 1 / 1000 + n * (11 / 20)) * ln2Q := by
    have k1 := Rat.mul_le_mul_of_nonneg_left lb2 n0
    grind
  have := (le_mul_cancel (show 0 < ln2Q by grind)).1 k
  grind
theorem num_4 : Num .f64 4616189618054758400 4 := ⟨false, 4503599627370496, -50, by decide +kernel, by decide +kernel⟩
theorem num_06 : Num .f64 4603579539098121011 (5404319552844595 * two (-53)) := ⟨false, 5404319552844595, -53, by decide +kernel, by decide +kernel⟩
/-- What the law's comparison looks at. -/
structure LenOk (L n c : Nat) : Prop where
  u : floatToFloatBits .f32 c .f64 = some (fup c)
  a : floatBits .add .f64 (fup c) 4616189618054758400 = some (fadd .f64 (fup c) 4616189618054758400)
  m : floatBits .mul .f64 4603579539098121011 (Fi n) = some (fmul .f64 4603579539098121011 (Fi n))
  b : floatBits .add .f64 (fadd .f64 (fup c) 4616189618054758400) (fmul .f64 4603579539098121011 (Fi n)) = some (fadd .f64 (fadd .f64 (fup c) 4616189618054758400) (fmul .f64 4603579539098121011 (Fi n)))
  g : (FloatKind.f64.format.order (Fi L) (fadd .f64 (fadd .f64 (fup c) 4616189618054758400) (fmul .f64 4603579539098121011 (Fi n))) == some .gt) = false
theorem len_ok {L n c : Nat} {Q : Rat} (hn : n ≤ 40) (hL : L ≤ 2000) (hQ : Num .f32 c Q) (q0 : 0 ≤ Q) (q1 : Q ≤ 880) (h : (L : Rat) ≤ Q + 3 + (n : Rat) * (11 / 20)) : LenOk L n c := by
  obtain ⟨u, nu⟩ := up_o hQ
  have nn := fi_num (n : Int) (by omega)
  have nL := fi_num (L : Int) (by omega)
  rw [Rat.intCast_natCast] at nn nL
  have n0 : (0 : Rat) ≤ (n : Rat) := Rat.natCast_nonneg
  have n1 : (n : Rat) ≤ ((40 : Nat) : Rat) := Rat.natCast_le_natCast.2 hn
  rw [show ((40 : Nat) : Rat) = 40 from rfl] at n1
  have k6 : 11 / 20 ≤ 5404319552844595 * two (-53) ∧ 5404319552844595 * two (-53) ≤ 7 / 10 := by constructor <;> decide +kernel
  generalize hc6 : 5404319552844595 * two (-53) = c6 at *
  have n6 := num_06
  rw [hc6] at n6
  have b1 : Bd 12 (Q + 4) := by rw [Bd, show two 12 = 4096 by decide +kernel]; constructor <;> grind
  obtain ⟨g1, r1, k1, e1⟩ := add_o nu num_4 (k0 := 12) (by decide) b1
  have m1 := Rat.mul_le_mul_of_nonneg_right k6.1 n0
  have m2 := Rat.mul_le_mul_of_nonneg_right k6.2 n0
  have b2 : Bd 12 (c6 * (n : Rat)) := by rw [Bd, show two 12 = 4096 by decide +kernel]; constructor <;> grind
  obtain ⟨g2, r2, k2, e2⟩ := mul_o n6 nn (k0 := 12) (by decide) b2
  have qq : two (-41 + 53) = 4096 := by decide +kernel
  have t41 : two (-41) ≤ 1 / 1000 := by decide +kernel
  have f1 := near64 (-41) (by decide) e1 (by rw [qq]; grind) (by rw [qq]; grind)
  have f2 := near64 (-41) (by decide) e2 (by rw [qq]; grind) (by rw [qq]; grind)
  have b3 : Bd 12 (r1 + r2) := by rw [Bd, show two 12 = 4096 by decide +kernel]; constructor <;> grind
  obtain ⟨g3, r3, k3, e3⟩ := add_o k1 k2 (k0 := 12) (by decide) b3
  have f3 := near64 (-41) (by decide) e3 (by rw [qq]; grind) (by rw [qq]; grind)
  refine ⟨u, g1, g2, g3, ?_⟩
  rw [order_num nL k3]
  have : cmpQ (L : Rat) r3 ≠ .gt := fun e => by have := cmp_gt.1 e; grind
  revert this; cases cmpQ (L : Rat) r3 <;> simp
end Go.Proofs.Ytbhconogaoghmaa
