/- 'laws.FnShares' returns true for all arguments: shares of secrets lead back from as many as are needed, fit together, and values with few wrong ones are mended. No conditions. -/
import Derived.Test.YtgkciionmhoofaaShrP
import Derived.Test.YtgkciionmhoofaaSrc
import Derived.Test.YtgkciionmhoofaaEq
import Derived.Test.YtgkciionmhoofaaAppAt
import Derived.Test.YtgkciionmhoofaaShS
import Derived.Test.YtgkciionmhoofaaFit
import Derived.Test.YtgkciionmhoofaaMvI
import Derived.Test.YtgkciionmhoofaaFrame
import Derived.Deep.CutRange
import Derived.Deep.DeepCutAuto
namespace Go.Proofs.Ytgkciionmhoofaa.fnShares
open Go.ChangeShapes Go.WideShapes Go.ChangeAt Go.RowKit
set_option maxRecDepth 100000
set_option linter.unusedVariables false
set_option linter.unusedSimpArgs false

set_option maxHeartbeats 16000000 in
theorem walk (v0 : Value) (z0 : List Int) (v1 : Value) (z1 : List Int) (w : World) (h0 : RB w v0 z0) (h1 : RB w v1 z1) :
    Calls Try.prog 3 #[v0, v1] w fun e w' => e = .returned (.bool true) ∧ Below w.heap.size w w' := by
  by_cases hlong : (decide (48 < z0.length) || decide (48 < z1.length)) = true
  · go_enter Try.func3, Try.ntmps3
    go_wp2_with fail
    refine (r8Long_any _ _ z0 z1 _ h0 h1).mono ?_
    rw [hlong]
    rintro e w1 ⟨rfl, rfl⟩
    go_wp2
    go_ret
    exact ⟨rfl, Below.refl _ _⟩
  · have hlong : (decide (48 < z0.length) || decide (48 < z1.length)) = false := by simpa using hlong
    have hl0 : z0.length ≤ 48 := by
      rcases Nat.lt_or_ge 48 z0.length with h | h
      · rw [decide_eq_true h] at hlong; simp at hlong
      · exact h
    have hl1 : z1.length ≤ 48 := by
      rcases Nat.lt_or_ge 48 z1.length with h | h
      · rw [decide_eq_true h] at hlong; simp at hlong
      · exact h
    have H0 := Lib.hid h0
    have H1 := Lib.hid h1
    have Hlong := Lib.hid hlong
    have hn := ri_new w primes 2 primes_i64 (by decide)
    have hb : ∀ o, Below w.heap.size w (w.alloc o) := fun o => by go_grown
    clear h0 h1 hlong
    go_enter Try.func3, Try.ntmps3
    go_wp2_with fail
    refine (r8Long_any _ _ z0 z1 _ H0.out H1.out).mono ?_
    rw [Hlong.out]
    rintro e w1 ⟨rfl, rfl⟩
    go_wp2_with fail
    have hb := hb (.cells (primes.map (Value.int .i64)).toArray 2)
    change Below w.heap.size w (w.alloc (.cells #[.int .i64 7, .int .i64 11, .int .i64 13, .int .i64 17, .int .i64 31, .int .i64 127, .int .i64 257] 2)) at hb
    change RI (w.alloc (.cells #[.int .i64 7, .int .i64 11, .int .i64 13, .int .i64 17, .int .i64 31, .int .i64 127, .int .i64 257] 2)) (.slice (some ⟨w.heap.size, 0, none⟩) primes.length primes.length) primes at hn
    generalize w.alloc (.cells #[.int .i64 7, .int .i64 11, .int .i64 13, .int .i64 17, .int .i64 31, .int .i64 127, .int .i64 257] 2) = wo at *
    refine (r8At_any _ z1 40 7 _ (H1.out.below hb) (by omega) (by omega) (by omega)).mono ?_
    rintro e w1 ⟨X, hX0, hX1, rfl, rfl⟩
    obtain ⟨X, rfl⟩ := Int.eq_ofNat_of_zero_le hX0
    obtain ⟨b, off, e, -, hc⟩ := hn.2.cells (show 0 < primes.length by decide)
    simp only [Option.some.injEq, Addr.mk.injEq, and_true] at e
    obtain ⟨rfl, rfl⟩ := e
    have hXl : X < primes.length := by show X < 7; omega
    have hc := hc X hXl
    rw [Nat.zero_add] at hc
    have hp : prm primes[X] = true := (memB_iff _ _).2 (List.getElem_mem hXl)
    obtain ⟨p, hpe⟩ : ∃ p, primes[X] = p := ⟨_, rfl⟩
    rw [hpe] at hc hp
    obtain ⟨hp1, hp2⟩ := prm_bd hp
    clear hn hpe hX0
    have Hp := Lib.hid hp
    clear hp
    go_wp2_with fail
    refine (r8At_any _ z1 41 4 _ (H1.out.below hb) (by omega) (by omega) (by omega)).mono ?_
    rintro e w1 ⟨M, hM0, hM1, rfl, rfl⟩
    obtain ⟨M, rfl⟩ := Int.eq_ofNat_of_zero_le hM0
    clear hc hM0
    have hM3 : M ≤ 3 := by omega
    have eN : (1 : Int) + (M : Int) = ((M + 1 : Nat) : Int) := by omega
    obtain ⟨N, hN⟩ : ∃ N, M + 1 = N := ⟨_, rfl⟩
    rw [hN] at eN
    have eM : (N : Int) - 1 = (M : Int) := by omega
    have hN4 : N ≤ 4 := by omega
    have hN1 : 1 ≤ N := by omega
    have HN := Lib.hid hN
    clear hN
    go_wp2_with fail
    refine (r8At_any _ z1 42 3 _ (H1.out.below hb) (by omega) (by omega) (by omega)).mono ?_
    rintro e w1 ⟨R, hR0, hR1, rfl, rfl⟩
    obtain ⟨R, rfl⟩ := Int.eq_ofNat_of_zero_le hR0
    obtain ⟨C, hC⟩ : ∃ C, N + R = C := ⟨_, rfl⟩
    have eC : (N : Int) + (R : Int) = (C : Int) := by omega
    have hC6 : C ≤ 6 := by omega
    have hNC : N ≤ C := by omega
    have hmin : (C : Int) ≤ p - 1 := by omega
    have hmin2 : ¬ p - 1 < (C : Int) := by omega
    have hmm : (if (C : Int) < p - 1 then (C : Int) else p - 1) = (C : Int) := by split <;> omega
    clear hC hR0
    go_wp2_with fail
    refine (r8At_any _ z1 43 p _ (H1.out.below hb) (by omega) (by omega) (by omega)).mono ?_
    rintro e w1 ⟨S, hS0, hS1, rfl, rfl⟩
    clear hmm hmin hmin2
    go_wp2_with fail
    refine (r8Below_any _ z0 M p _ (H0.out.below hb) (by omega) (by omega) (by omega) (by omega)).mono ?_
    rintro e w2 ⟨v2, ex, rfl, hox, hxl, hxb, hb2⟩
    have hB2 := bnext hb hb2
    have Hx := Lib.hid (hox.mono hb.size)
    have hB2s := hB2.size
    have Hxl := Lib.hid hxl
    have Hxb := Lib.hid hxb
    clear hox hxl hxb hb hb2
    have Hf := Lib.hid (show (S :: ex).length = N by rw [List.length_cons, Hxl.out]; exact HN.out)
    have Hss := Lib.hid (show ssOk p S ex (C : Int) = true by
      rw [ssOk, nums_of Hp.out (by omega) (by have := Hxl.out; omega) Hxb.out]
      simp only [inB, Bool.true_and, Bool.and_eq_true, decide_eq_true_eq]; omega)
    have Hsh := Lib.hid (show ssZ p S ex (C : Int) = vals p (S :: ex) 1 C by rw [ssZ, if_pos Hss.out]; rfl)
    have hxl8 : ex.length ≤ 8 := by have := Hxl.out; omega
    obtain ⟨aox, cpx, rfl⟩ := Hx.out.shape
    go_wp2_with fail
    refine (implSs_any p S _ ex (C : Int) _ Hx.out.ri ⟨by omega, by omega⟩ (by omega)).mono ?_
    rw [Hss.out, Hsh.out]
    rintro e w3 ⟨v3, rfl, ho3, hb3⟩
    have hB3 := bnext hB2 hb3
    have Hs := Lib.hid (ho3.mono hB2s)
    clear ho3 hb3 hB2 Hss Hsh hB2s Hx
    have hshl := vals_len p (S :: ex) 1 C
    have Hshv := Lib.hid (show ∀ i, i < C → gI (vals p (S :: ex) 1 C) i = valF p ((i + 1 : Nat) : Int) (S :: ex) from fun i hi => by rw [vals_gI p _ 1 C i hi, Nat.add_comm])
    have Hshb := Lib.hid (show ∀ z ∈ vals p (S :: ex) 1 C, 0 ≤ z ∧ z < p from fun z hz => by obtain ⟨i, _, rfl⟩ := List.mem_map.1 hz; exact valF_bd (by omega) _ _)
    have Hshl := Lib.hid hshl
    clear hshl
    generalize vals p (S :: ex) 1 C = sh at *
    obtain ⟨aos, cps, rfl⟩ := Hs.out.shape
    have hshA : sh.length ≤ C := by have := Hshl.out; omega
    have hshB : C ≤ sh.length := by have := Hshl.out; omega
    have e10 : ((sh.length : Int) != (C : Int)) = false := by simp; omega
    have Ha := Lib.hid (r8F_bd z1 44 (n := (C : Int)) (by omega))
    obtain ⟨a, ha⟩ : ∃ a : Nat, r8F z1 44 (C : Int) = (a : Int) := ⟨(r8F z1 44 (C : Int)).toNat, by have := Ha.out; omega⟩
    have haC : a < C := by have := Ha.out; omega
    have Hae := Lib.hid ha
    clear ha Ha
    have Hw3 := Lib.hid hB3
    have hsz3 := hB3.size
    clear hB3
    go_wp2_with fail
    go_loopw [13, 14, 15] (fun pv sv iv wr => ∃ (i : Nat), iv = .int .i64 i ∧ i ≤ N ∧ Two w3.heap.size wr pv sv (rotP C a i) (rotV sh C a i) ∧ Below w3.heap.size w3 wr) (fun _ _ iv _ => N - (intOf iv).toNat)
    case atStart => exact ⟨0, rfl, Nat.zero_le _, two_new w3 _ (Nat.le_refl _), by go_grown⟩
    case round =>
      obtain ⟨i, rfl, hi, htw, hBl⟩ := hrel
      have hBr := Hw3.out.trans (hBl.mono hsz3)
      by_cases hiN : i < N
      · obtain ⟨ap1, cp1, rfl⟩ := htw.a.shape
        obtain ⟨ap2, cp2, rfl⟩ := htw.b.shape
        have hmod : ((i : Int) + (a : Int)) % (C : Int) = (((i + a) % C : Nat) : Int) := by simp
        have htC : (i + a) % C < C := Nat.mod_lt _ (by omega)
        have HL1 := Lib.hid (rotP_snoc C a i)
        have HL2 := Lib.hid (rotV_snoc sh C a i)
        obtain ⟨bS, oS, eS, -, hcS⟩ := Hs.out.2.rg.cells (by omega)
        obtain rfl := eS
        have hct := hcS ((i + a) % C) (by omega)
        have hgt : gI sh ((i + a) % C) = sh[(i + a) % C]'(by omega) := gI_eq (by omega)
        rw [← hgt] at hct
        have hct0 := hct
        clear hgt hcS
        have hll1 : (rotP C a i).length ≤ 8 := by rw [rotP_len]; omega
        have hll2 : (rotV sh C a i).length ≤ 8 := by rw [rotV_len]; omega
        generalize gI sh ((i + a) % C) = x at *
        generalize (i + a) % C = t at *
        generalize rotP C a i = l1 at *
        generalize rotV sh C a i = l2 at *
        have Htw := Lib.hid htw
        have hown1 := htw.a
        have hsz := hBl.size
        have hiI : (i : Int) < (N : Int) := by omega
        have htl : (t : Int) < (sh.length : Int) := by omega
        clear htw
        go_wp2_with fail
        refine (r8At_f _ z1 44 (C : Int) _ (H1.out.below hBr) (by omega) (by omega) (by omega)).mono ?_
        rw [Hae.out]
        rintro e w9 ⟨rfl, rfl⟩
        go_wp2_with (at_builtin; go_must (refine app_int_at rfl _ _ rfl w3.heap.size w3.heap.size (Nat.le_refl _) (.slice ap1 l1.length cp1) l1 rfl hown1 hBl _ _ [(t : Int) + 1] rfl rfl (by simp; omega) hsz ?_))
        intro v5 w5 hown5 hB5 hg5 hat5
        rw [show (t : Int) + 1 = ((t + 1 : Nat) : Int) by omega, ← HL1.out] at hown5
        have htw5 := Htw.out.first hown5 hg5 hat5
        have hct5 := cnext hB5 (cnext (Below.refl _ _) hct0)
        have hsz5 := hB5.size
        obtain ⟨ap5, cp5, rfl⟩ := hown5.shape
        have Htw5 := Lib.hid htw5
        have hown6 := htw5.b
        clear hown1 hown5 hg5 hat5 htw5 Htw hct hsz hBl hBr
        go_wp2_with (at_builtin; go_must (refine app_int_at rfl _ _ rfl w3.heap.size w3.heap.size (Nat.le_refl _) (.slice ap2 l2.length cp2) l2 rfl hown6 hB5 _ _ [x] rfl rfl (by simp; omega) hsz5 ?_))
        intro v6 w6 hown7 hB6 hg6 hat6
        rw [← HL2.out] at hown7
        have htw6 := Htw5.out.second hown7 hg6 hat6
        have Htw6 := Lib.hid htw6
        obtain ⟨ap6, cp6, rfl⟩ := hown7.shape
        clear hown6 hown7 hg6 hat6 htw6 Htw5 hct5
        go_wp2
        go_roundw
        case rel => exact ⟨i + 1, by go_num, by omega, Htw6.out, hB6⟩
        case measure => simp [intOf] <;> omega
      · have hie : N = i := by omega
        subst hie
        have hsz4 := hBl.size
        have Hs4 := Lib.hid (Hs.out.below (hBl.mono (Nat.le_refl _)))
        have HP4 := Lib.hid (show RI wr _ (rotP C a N) from (htw.a.oi (fun z hz => by have := rotP_bd (p := p) (n := N) (a := a) (C := C) (by omega) (by omega) z hz; constructor <;> omega)).ri)
        have HV4 := Lib.hid (show RI wr _ (rotV sh C a N) from (htw.b.oi (bd_i64 hp2 (rotV_bd (by omega) Hshb.out))).ri)
        have HJ := Lib.hid (join_back Hp.out (ps := rotP C a N) (ss := rotV sh C a N) (f := ex) (s := S) (by rw [rotP_len]; omega) (by rw [rotP_len]; omega) (by rw [rotP_len, rotV_len]) (rotP_bd (by omega) (by omega)) (rotV_bd (by omega) Hshb.out) (rotP_dst (by omega) haC hNC) ⟨hS0, hS1⟩ (by rw [rotP_len, Hf.out]; exact Nat.le_refl _) (fun i hi => by
          rw [rotP_len] at hi
          rw [rotV_gI _ _ _ _ _ hi, rotP_get, Hshv.out _ (Nat.mod_lt _ (by omega))]))
        obtain ⟨ap1, cp1, rfl⟩ := htw.a.shape
        obtain ⟨ap2, cp2, rfl⟩ := htw.b.shape
        have hB4 := Hw3.out.trans (hBl.mono hsz3)
        clear htw hBl Hs Hw3 hsz3 hsz4
        go_wp2_with fail
        refine (implJs_any p _ (rotP C a N) _ (rotV sh C a N) _ HP4.out HV4.out).mono ?_
        rw [HJ.out.1, HJ.out.2]
        rintro e w5 ⟨rfl, hb5⟩
        have Hs5 := Lib.hid (Hs4.out.below hb5)
        have hB5 := bnext hB4 hb5
        clear HP4 HV4 HJ Hs4 hB4 hb5
        have HB5 := Lib.hid hB5
        have hB5s := hB5.size
        clear hB5
        go_wp2_with fail
        go_loopw [19, 20] (fun ov iv wr => ∃ (i : Nat), iv = .int .i64 i ∧ i ≤ C ∧ OwnI w5.heap.size wr ov (upto i) ∧ Below w5.heap.size w5 wr) (fun _ iv _ => C - (intOf iv).toNat)
        case atStart => exact ⟨0, rfl, Nat.zero_le _, own_empty w5 _ (Nat.le_refl _), by go_grown⟩
        case round =>
          obtain ⟨i, rfl, hi, hown, hBl⟩ := hrel
          obtain ⟨aoo, capo, rfl⟩ := hown.shape
          by_cases hiC : i < C
          · have HU := Lib.hid (upto_snoc i)
            have hul : (upto i).length ≤ 8 := by rw [upto_len]; omega
            have hsz := hBl.size
            have hiI : (i : Int) < (C : Int) := by omega
            generalize upto i = l at *
            go_wp2_with (at_builtin; go_must (refine app_ints rfl _ _ rfl w5.heap.size w5.heap.size (Nat.le_refl _) (.slice aoo l.length capo) l rfl hown hBl _ _ [(i : Int) + 1] rfl rfl (by simp; omega) hsz ?_))
            intro v6 w6 hown6 hB6 hg6
            rw [show (i : Int) + 1 = ((i + 1 : Nat) : Int) by omega, HU.out] at hown6
            obtain ⟨ao6, cap6, rfl⟩ := hown6.shape
            have Hown6 := Lib.hid hown6
            clear hown hown6 hg6 hBl hsz
            go_wp2
            go_roundw
            case rel => exact ⟨i + 1, by go_num, by omega, Hown6.out, hB6⟩
            case measure => simp [intOf] <;> omega
          · have hie : C = i := by omega
            subst hie
            have hubd := upto_bd (c := C) (p := p) (by omega)
            have Hu := Lib.hid (show OI w5.heap.size wr _ (upto C) from hown.oi (bd_i64 hp2 hubd))
            have Hub1 := Lib.hid (show ∀ z ∈ upto C, 1 ≤ z ∧ z < p from fun z hz => by obtain ⟨i, hi, rfl⟩ := List.mem_map.1 hz; have := List.mem_range.1 hi; omega)
            have Hs6 := Lib.hid (Hs5.out.below hBl)
            have hB6 := bnext HB5.out hBl
            have Hul := Lib.hid (upto_len C)
            have HFY := Lib.hid (fits_yes Hp.out (ps := upto C) (ss := sh) (f := S :: ex) (need := N) (by omega) (by rw [Hul.out]; omega) (by rw [Hul.out]; omega) (by rw [Hul.out]; omega) Hub1.out Hshb.out (upto_dst C) (by rw [Hf.out]; exact Nat.le_refl _) (fun i hi => by rw [upto_get, Hshv.out i (by rw [Hul.out] at hi; exact hi)]))
            have HJ2 := Lib.hid (join_back Hp.out (ps := upto C) (ss := sh) (f := ex) (s := S) (by rw [Hul.out]; omega) (by rw [Hul.out]; omega) (by rw [Hul.out]; omega) Hub1.out Hshb.out (upto_dst C) ⟨hS0, hS1⟩ (by rw [Hul.out, Hf.out]; omega) (fun i hi => by rw [upto_get, Hshv.out i (by rw [Hul.out] at hi; exact hi)]))
            have hSS : (S != S) = false := by simp
            have Hual := Lib.hid (upto_dst C)
            have Huget := Lib.hid (upto_get C)
            clear hown hBl Hs5 HB5 hB5s hubd
            generalize upto C = al at *
            go_wp2_with fail
            refine (implFs_any p N _ al _ sh _ Hu.out.ri Hs6.out.ri).mono ?_
            rw [HFY.out.1, HFY.out.2]
            rintro e w7 ⟨rfl, hb7⟩
            have Hu7 := Lib.hid (Hu.out.below hb7)
            have Hs7 := Lib.hid (Hs6.out.below hb7)
            have hB7 := bnext hB6 hb7
            clear Hu Hs6 hB6 hb7 HFY
            go_wp2_with fail
            refine (implJs_any p _ al _ sh _ Hu7.out.ri Hs7.out.ri).mono ?_
            rw [HJ2.out.1, HJ2.out.2]
            rintro e w8 ⟨rfl, hb8⟩
            have Hu8 := Lib.hid (Hu7.out.below hb8)
            have Hs8 := Lib.hid (Hs7.out.below hb8)
            have HB8 := Lib.hid (bnext hB7 hb8)
            clear Hu7 Hs7 hB7 hb8 HJ2
            go_upto_if 171 with fail
            go_cut [25, 26, 27] from 169 to 195 (fun _ _ _ wx => Below w8.heap.size w8 wx)
            case first =>
              by_cases hlt : N < C
              · have hltI : (N : Int) < (C : Int) := by omega
                have hE8 := own_empty w8 w8.heap.size (Nat.le_refl _)
                have hBE : Below w8.heap.size w8 (w8.alloc (.cells #[] 2)) := by go_grown
                have hsE := hBE.size
                have HrE := Lib.hid (Hs8.out.ri.below hBE).2
                go_wp2_with (at_builtin; go_must (refine app_ri rfl _ _ rfl w8.heap.size w8.heap.size (Nat.le_refl _) (.slice (some ⟨w8.heap.size, 0, none⟩) 0 0) [] rfl hE8 hBE _ sh rfl HrE.out (by simp; omega) hsE ?_))
                intro v9 w9 hown9 hB9 hg9
                have ho9 : OwnI w8.heap.size w9 v9 sh := by simpa using hown9
                obtain ⟨gb, ob, cb, rfl, hob⟩ := Og.ob (Og.own ho9) (show 0 < sh.length by omega)
                have hg0 : gI sh 0 = sh[0]'(by omega) := gI_eq (by omega)
                have cb0 := hob.cell 0 (by omega)
                have fb0 := hob.free 0 (by omega)
                rw [← hg0] at cb0
                have hx0 := gI_bd (show 0 < p by omega) Hshb.out 0
                have hput := hob.put 0 (by omega) ((gI sh 0 + 1) % p)
                have hlo := hob.lo
                rw [Nat.add_zero] at cb0 fb0 hput
                have Hne := Lib.hid (flip_ne (p := p) (v := gI sh 0) (r := 0) (by omega) hx0 (by omega))
                have Hx0v := Lib.hid (Hshv.out 0 (by omega))
                have hq1 := Int.emod_nonneg (gI sh 0 + 1) (show p ≠ 0 by omega)
                have hq2 := Int.emod_lt_of_pos (gI sh 0 + 1) (show 0 < p by omega)
                have Hb10 := Lib.hid (show OI w8.heap.size (w9.setCell ⟨gb, ob, none⟩ (.int .i64 ((gI sh 0 + 1) % p))) (.slice (some ⟨gb, ob, none⟩) sh.length cb) (sh.set 0 ((gI sh 0 + 1) % p)) from ⟨bd_i64 hp2 (fun z hz => by
                  rcases List.mem_or_eq_of_mem_set hz with hz | rfl
                  · exact Hshb.out z hz
                  · exact ⟨hq1, hq2⟩), hput.og⟩)
                have hB10 : Below w8.heap.size w8 (w9.setCell ⟨gb, ob, none⟩ (.int .i64 ((gI sh 0 + 1) % p))) := hB9.setCell (p := ⟨gb, ob, none⟩) hlo _
                have Hno := Lib.hid (fits_no Hp.out (ps := al) (ss := sh.set 0 ((gI sh 0 + 1) % p)) (f := S :: ex) (need := N) (by omega) (by rw [Hul.out]; omega) (by rw [Hul.out]; omega) (by rw [Hul.out, List.length_set]; omega) Hub1.out (fun z hz => by
                  rcases List.mem_or_eq_of_mem_set hz with hz | rfl
                  · exact Hshb.out z hz
                  · exact ⟨hq1, hq2⟩) Hual.out (by rw [Hf.out]; exact Nat.le_refl _) (fun i hi h1 => by
                    rw [Hul.out] at hi
                    have e1 : gI (sh.set 0 ((gI sh 0 + 1) % p)) i = gI sh i := by unfold gI; rw [List.getElem?_set_ne (by omega)]
                    rw [e1, Hshv.out i hi, Huget.out]) (by
                    have e1 : gI (sh.set 0 ((gI sh 0 + 1) % p)) 0 = (gI sh 0 + 1) % p := by unfold gI; rw [List.getElem?_set_self (by omega)]; rfl
                    rw [e1, Huget.out 0, ← Hx0v.out]
                    have := Hne.out
                    rw [Int.add_zero] at this; exact this))
                clear hown9 hB9 hg9 ho9 hob hput hg0 hE8 hBE hsE HrE
                generalize gI sh 0 = x0 at *
                go_wp2_with fail
                refine (implFs_any p N _ al _ (sh.set 0 ((x0 + 1) % p)) _ (Hu8.out.ri.below hB10) Hb10.out.ri).mono ?_
                rw [Hno.out.1, Hno.out.2]
                rintro e w11 ⟨rfl, hb11⟩
                have hB11 := bnext hB10 hb11
                go_wp2_with fail
                go_meet
                case rel => exact hB11
              · have hltI : ¬ (N : Int) < (C : Int) := by omega
                go_wp2_with fail
                go_meet
                case rel => exact Below.refl _ _
            case rest =>
              have hBc := bnext HB8.out hcut
              clear hcut Hu8 Hs8 HB8 Hshb Hshv Hshl Hub1 Hul Hual Huget Hf Hxl Hxb Hae HN hSS e10
              go_wp2_with fail
              refine (r8At_any _ z1 45 2 _ (H1.out.below hBc) (by omega) (by omega) (by omega)).mono ?_
              rintro e w1 ⟨K, hK0, hK1, rfl, rfl⟩
              obtain ⟨K, rfl⟩ := Int.eq_ofNat_of_zero_le hK0
              have eK : (1 : Int) + (K : Int) = ((K + 1 : Nat) : Int) := by omega
              obtain ⟨k, hk⟩ : ∃ k, K + 1 = k := ⟨_, rfl⟩
              rw [hk] at eK
              have hkk : k = 1 ∨ k = 2 := by omega
              have hkA : 1 ≤ k := by omega
              have hkB : k ≤ 2 := by omega
              have Hkk := Lib.hid hkk
              obtain ⟨nn, hnn, hmn, hnp⟩ := nn_of Hp.out
              have Hnn := Lib.hid hnn
              have hnA : nn ≤ 8 := by omega
              have hnB : 6 ≤ nn := by omega
              clear hk hkk hnn hK0
              go_wp2_with fail
              refine (r8Below_any _ z1 k p _ (H1.out.below hBc) (by omega) (by omega) (by omega) (by omega)).mono ?_
              rintro e w10 ⟨v10, msg, rfl, hom, hml, hmb, hb10⟩
              have hB10 := bnext hBc hb10
              have Hm := Lib.hid (hom.mono hBc.size)
              have Hml := Lib.hid hml
              have Hmb := Lib.hid hmb
              have hmlA : 1 ≤ msg.length := by omega
              have hmlB : msg.length ≤ 2 := by omega
              have Hvo := Lib.hid (show voOk p msg (nn : Int) = true by
                rw [voOk, nums_of Hp.out (by omega) (by omega) hmb]
                simp only [inB, Bool.true_and, Bool.and_eq_true, decide_eq_true_eq]; omega)
              have Hvz := Lib.hid (show voZ p msg (nn : Int) = vals p msg 0 nn by rw [voZ, if_pos Hvo.out]; rfl)
              clear hom hml hmb hb10 hBc
              obtain ⟨aom, cpm, rfl⟩ := Hm.out.shape
              go_wp2_with fail
              refine (implVo_any p _ msg (nn : Int) _ Hm.out.ri).mono ?_
              rw [Hvo.out, Hvz.out]
              rintro e w11 ⟨v11, rfl, ho11, hb11⟩
              have hB11 := bnext hB10 hb11
              have Hm := Lib.hid (Hm.out.below hb11)
              have Hv := Lib.hid (ho11.mono hB10.size)
              have hvl := vals_len p msg 0 nn
              have Hvv := Lib.hid (show ∀ x, x < nn → gI (vals p msg 0 nn) x = valF p (x : Int) msg from fun x hx => by rw [vals_gI p _ 0 nn x hx, Nat.zero_add])
              have Hvb := Lib.hid (show ∀ z ∈ vals p msg 0 nn, 0 ≤ z ∧ z < p from fun z hz => by obtain ⟨i, _, rfl⟩ := List.mem_map.1 hz; exact valF_bd (by omega) _ _)
              clear ho11 hb11 hB10 Hvo Hvz
              generalize vals p msg 0 nn = vl at *
              have hvA : vl.length ≤ nn := by omega
              have hvB : nn ≤ vl.length := by omega
              have Hvl := Lib.hid hvl
              clear hvl
              obtain ⟨aov, cpv, rfl⟩ := Hv.out.shape
              have e40 : ((vl.length : Int) != (nn : Int)) = false := by simp; omega
              obtain ⟨bM, oM, eM2, -, hcM⟩ := Hm.out.2.rg.cells (by omega)
              obtain rfl := eM2
              obtain ⟨bV, oV, eV2, -, hcV⟩ := Hv.out.2.rg.cells (by omega)
              obtain rfl := eV2
              have hcm0 := hcM 0 (by omega)
              have hcv0 := hcV 0 (by omega)
              have hvm : vl[0]'(by omega) = msg[0]'(by omega) := by
                have h1 := Hvv.out 0 (by omega)
                rw [gI_eq (by omega)] at h1
                rw [h1, valF_0 Hmb.out (by omega)]
              rw [hvm] at hcv0
              generalize msg[0]'(by omega) = m0 at *
              have hmm0 : (m0 != m0) = false := by simp
              have hv0 : (0 : Int) < (vl.length : Int) := by omega
              have hv0' : 0 < vl.length := by omega
              have hmz : (0 : Int) < (msg.length : Int) := by omega
              have hmz' : 0 < msg.length := by omega
              clear hcM hcV hvm
              rw [Nat.add_zero] at hcm0 hcv0
              go_wp2_with fail
              go_quiet (fail)
              have hB12 := bnext hB11 (below_drewN w11 nq)
              have Hm := Lib.hid (Hm.out.below (below_drewN w11 nq))
              have Hv := Lib.hid (Hv.out.below (below_drewN w11 nq))
              clear hcm0 hcv0 hB11 hmm0
              generalize w11.drewN nq = w12 at *
              have hE := own_empty w12 w12.heap.size (Nat.le_refl _)
              have hBE : Below w12.heap.size w12 (w12.alloc (.cells #[] 2)) := by go_grown
              have hsE := hBE.size
              have HrE := Lib.hid (Hv.out.ri.below hBE).2
              go_wp2_with (at_builtin; go_must (refine app_ri rfl _ _ rfl w12.heap.size w12.heap.size (Nat.le_refl _) (.slice (some ⟨w12.heap.size, 0, none⟩) 0 0) [] rfl hE hBE _ vl rfl HrE.out (by simp; omega) hsE ?_))
              intro v13 w13 hown13 hB13' hg13
              have ho13 : OwnI w12.heap.size w13 v13 vl := by simpa using hown13
              have hB13 := bnext hB12 hB13'
              obtain ⟨g, o, cg, rfl, hob⟩ := Og.ob (Og.own ho13) (show 0 < vl.length by omega)
              have hnk0 : (0 : Int) ≤ (nn : Int) - (k : Int) := by omega
              obtain ⟨q, hq⟩ : ∃ q, (nn - k) / 2 = q := ⟨_, rfl⟩
              have eq1 : ((nn : Int) - (k : Int)) / 2 = (q : Int) := by omega
              have eq2 : ((nn : Int) - (k : Int)).tdiv 2 = (q : Int) := by rw [Int.tdiv_eq_ediv_of_nonneg hnk0]; exact eq1
              have hq2 : 2 * q + k ≤ nn := by omega
              have hsz12 := hB12.size
              clear hown13 hg13 ho13 hE hBE hsE HrE hB12 hq
              go_wp2_with fail
              refine (r8At_any _ z1 46 ((q : Int) + 1) _ (H1.out.below hB13) (by omega) (by omega) (by omega)).mono ?_
              rintro e w1 ⟨F, hF0, hF1, rfl, rfl⟩
              obtain ⟨F, rfl⟩ := Int.eq_ofNat_of_zero_le hF0
              have hFq : F ≤ q := by omega
              clear hF0 hF1 eq1 eq2 hnk0 eM eN eC eK hmn
              have Hb := Lib.hid (r8F_bd z1 47 (n := (nn : Int)) (by omega))
              obtain ⟨b, hb⟩ : ∃ b : Nat, r8F z1 47 (nn : Int) = (b : Int) := ⟨(r8F z1 47 (nn : Int)).toNat, by have := Hb.out; omega⟩
              have hbn : b < nn := by have := Hb.out; omega
              have Hbe := Lib.hid hb
              clear hb Hb
              have Hob := Lib.hid hob
              have HB13 := Lib.hid hB13
              have hsz13 := hB13.size
              have hglo := hob.lo
              clear hob hB13
              have Hmis0 := Lib.hid (mis_zero nn Hvv.out)
              go_wp2_with fail
              go_loopw [35] (fun iv wr => ∃ (i : Nat) (W : List Int), iv = .int .i64 i ∧ i ≤ F ∧ W.length = vl.length ∧ (∀ z ∈ W, 0 ≤ z ∧ z < p) ∧ mis p msg W nn = i ∧ (∀ j, i ≤ j → j < nn → gI W ((b + j) % nn) = valF p (((b + j) % nn : Nat) : Int) msg) ∧ OB (Value.int .i64) w12.heap.size wr g o vl.length cg W ∧ Below w12.heap.size w13 wr) (fun iv _ => F - (intOf iv).toNat)
              case atStart => exact ⟨0, vl, rfl, Nat.zero_le _, rfl, Hvb.out, Hmis0.out, (fun j _ hj => Hvv.out _ (Nat.mod_lt _ (by omega))), Hob.out, Below.refl _ _⟩
              case round =>
                obtain ⟨i, W, rfl, hi, hWl, hWb, hWm, hWr, hob, hBl⟩ := hrel
                have HWb := Lib.hid hWb
                have HWm := Lib.hid hWm
                have HWr := Lib.hid hWr
                have HWl := Lib.hid hWl
                have hBr := HB13.out.trans (hBl.mono hsz12)
                have hgh : g < wr.heap.size := hob.hi
                clear hWb hWm hWr hWl
                by_cases hiF : i < F
                · have hWA : W.length ≤ nn := by have := HWl.out; omega
                  have hWB : nn ≤ W.length := by have := HWl.out; omega
                  obtain ⟨t, ht⟩ : ∃ t, (b + i) % nn = t := ⟨_, rfl⟩
                  have htn : t < nn := by rw [← ht]; exact Nat.mod_lt _ (by omega)
                  have hmod : ((b : Int) + (i : Int)) % (nn : Int) = (t : Int) := by rw [← ht]; simp
                  have hct := hob.cell t (by omega)
                  have hft := hob.free t (by omega)
                  have hvt := HWb.out (W[t]'(by omega)) (List.getElem_mem _)
                  have hgv : gI W t = W[t]'(by omega) := gI_eq (by omega)
                  have Hval := Lib.hid (show gI W t = valF p (t : Int) msg by have h := HWr.out i (Nat.le_refl _) (by omega); rw [ht] at h; exact h)
                  have hr := r8F_bd z0 i (n := p - 1) (by omega)
                  have HR := Lib.hid (show ∀ q, Calls Try.prog 6 #[v0, .int .i64 i, .int .i64 (p - 1)] (wr.drewN q) fun e w' => e = .returned (.int .i64 (r8F z0 i (p - 1))) ∧ wr.drewN q = w' from fun q => r8At_f v0 z0 i (p - 1) _ ((H0.out.below hBr).below (below_drewN wr q)) (by omega) (by omega) (by omega))
                  have HrB := Lib.hid (H0.out.below hBr)
                  have Hrot := Lib.hid (show ∀ j, i + 1 ≤ j → j < nn → (b + j) % nn ≠ (b + i) % nn from fun j h1 h2 e => by have := rot_ne nn (by omega) b hbn j h2 i (by omega) e; omega)
                  rw [← hgv] at hct hvt
                  generalize gI W t = v at *
                  have Ht := Lib.hid ht
                  generalize hre : r8F z0 i (p - 1) = r at *
                  have Hre := Lib.hid hre
                  have hflip := flip_ne (p := p) (v := v) (r := r) (by omega) hvt (by omega)
                  have Hflip := Lib.hid hflip
                  have Hput := Lib.hid (show ∀ m, OB (Value.int .i64) w12.heap.size ((wr.drewN m).setCell ⟨g, o + t, none⟩ (.int .i64 ((v + 1 + r) % p))) g o vl.length cg (W.set t ((v + 1 + r) % p)) from fun m => (hob.below (below_drewN wr m)).put t (by omega) _)
                  have Hbel := Lib.hid (show ∀ m, Below w12.heap.size w13 ((wr.drewN m).setCell ⟨g, o + t, none⟩ (.int .i64 ((v + 1 + r) % p))) from fun m => (hBl.trans ((below_drewN wr m).mono (by omega))).setCell (p := ⟨g, o + t, none⟩) hglo _)
                  have q1 := Int.emod_nonneg (v + 1 + r) (show p ≠ 0 by omega)
                  have q2 := Int.emod_lt_of_pos (v + 1 + r) (show 0 < p by omega)
                  have f1 : IntKind.i64.wrap (v + 1) = v + 1 := IntWalk.i64_in _ (by omega)
                  have f2 : IntKind.i64.wrap (v + 1 + r) = v + 1 + r := IntWalk.i64_in _ (by omega)
                  have f3 : IntKind.i64.wrap ((v + 1 + r) % p) = (v + 1 + r) % p := IntWalk.i64_in _ (by omega)
                  have f4 : IntKind.i64.wrap (p - 1) = p - 1 := IntWalk.i64_in _ (by omega)
                  have f5 : (v + 1 + r).tmod p = (v + 1 + r) % p := Int.tmod_eq_emod_of_nonneg (by omega)
                  have pne : p ≠ 0 := by omega
                  have p0 : (p == 0) = false := by simp; omega
                  have t0 : (0 : Int) ≤ (t : Int) := by omega
                  have tl : (t : Int) < (vl.length : Int) := by omega
                  have iFI : (i : Int) < (F : Int) := by omega
                  have hwr0 : Below wr.heap.size wr wr := Below.refl _ _
                  clear hgv hre hflip ht
                  go_wp2_with fail
                  refine (r8At_f _ z1 47 (nn : Int) _ (H1.out.below hBr) (by omega) (by omega) (by omega)).mono ?_
                  rw [Hbe.out]
                  rintro e w9 ⟨rfl, rfl⟩
                  go_wp2_with fail
                  clear hob
                  refine wp_region_quiet_tail 16 (by kernel_rfl) (by decide +kernel) (by kernel_rfl) ?_
                  simp only [List.take_succ_cons, List.take_zero, List.drop_succ_cons, List.drop_zero]
                  repeat (go_big_quiet_step ((go_at_call 6; exact Calls.quiet_of (qi (HR.out _)))))
                  refine wpQuiet_nil ?_
                  intro w9 hw9
                  obtain ⟨nq, rfl⟩ := hw9
                  have hct1 : (wr.drewN nq).cell? ⟨g, o + t, none⟩ = some (.int .i64 v) := hct
                  have hft1 : (wr.drewN nq).frozen? ⟨g, o + t, none⟩ = false := hft
                  have HP1 := Lib.hid (Hput.out nq)
                  have HL1 := Lib.hid (Hbel.out nq)
                  clear Hput Hbel hct hft HR HrB hBl hBr hwr0 f1 f2 f3 f4 f5
                  generalize wr.drewN nq = wq at *
                  go_wp2_with fail
                  go_roundw
                  case rel => exact ⟨i + 1, W.set t ((v + 1 + r) % p), by go_num, by omega, by rw [List.length_set]; exact HWl.out, (fun z hz => by
                    rcases List.mem_or_eq_of_mem_set hz with hz | rfl
                    · exact HWb.out z hz
                    · exact ⟨q1, q2⟩), (by rw [mis_set htn hWB (by have h := HWr.out i (Nat.le_refl _) (by omega); rw [Ht.out] at h; exact h) (by rw [← Hval.out]; exact Hflip.out), HWm.out]), (fun j h1 h2 => by
                    rw [gI_set (by omega), if_neg (by rw [← Ht.out]; exact Hrot.out j h1 h2)]
                    exact HWr.out j (by omega) h2), HP1.out, HL1.out⟩
                  case measure => simp [intOf] <;> omega
                · have hie : F = i := by omega
                  subst hie
                  have M1 := mended Hp.out Hnn.out hnp Hkk.out Hml.out Hmb.out (HWl.out.trans Hvl.out) HWb.out (by rw [HWm.out]; omega)
                  rw [HWm.out] at M1
                  have M2 := mended Hp.out Hnn.out hnp Hkk.out Hml.out Hmb.out Hvl.out Hvb.out (by rw [Hmis0.out]; omega)
                  rw [Hmis0.out] at M2
                  have HM1 := Lib.hid M1
                  have HM2 := Lib.hid M2
                  have Hw4 := Lib.hid (show OI w12.heap.size wr (.slice (some ⟨g, o, none⟩) vl.length cg) W from ⟨bd_i64 hp2 HWb.out, hob.og⟩)
                  have Hv4 := Lib.hid (Hv.out.below (hB13'.trans hBl))
                  have Hm4 := Lib.hid (Hm.out.below (hB13'.trans hBl))
                  clear M1 M2 hob hBl Hm Hv HWb HWm HWr HWl hgh
                  go_wp2_with fail
                  refine (implMv_any p k _ W _ Hw4.out.ri).mono ?_
                  rw [HM1.out.1, HM1.out.2.1, HM1.out.2.2]
                  rintro e w14 ⟨v14, rfl, ho14, hb14⟩
                  have hB14 := bnext hBr hb14
                  have Hw14 := Lib.hid (ho14.mono hBr.size)
                  have Hv14 := Lib.hid (Hv4.out.below hb14)
                  have Hm14 := Lib.hid (Hm4.out.below hb14)
                  clear ho14 hb14 hBr
                  go_wp2_with fail
                  refine (implMv_any p k _ vl _ Hv14.out.ri).mono ?_
                  rw [HM2.out.1, HM2.out.2.1, HM2.out.2.2]
                  rintro e w15 ⟨v15, rfl, ho15, hb15⟩
                  have hB15 := bnext hB14 hb15
                  have Hx15 := Lib.hid (ho15.mono hB14.size)
                  have Hw15 := Lib.hid (Hw14.out.below hb15)
                  have Hm15 := Lib.hid (Hm14.out.below hb15)
                  clear ho15 hb15 hB14 Hv14 Hm14 Hw14
                  obtain ⟨a14, c14, rfl⟩ := Hw15.out.shape
                  obtain ⟨a15, c15, rfl⟩ := Hx15.out.shape
                  go_wp2_with fail
                  refine (r8Same_any _ _ msg msg _ Hw15.out.ri Hm15.out.ri).mono ?_
                  rw [eqL_self]
                  rintro e w16 ⟨rfl, n16, hw16⟩
                  have hB16 := bnext hB15 (below_of_drew hw16)
                  have Hx16 := Lib.hid (Hx15.out.below (below_of_drew hw16))
                  have Hm16 := Lib.hid (Hm15.out.below (below_of_drew hw16))
                  clear hw16 hB15 Hx15 Hm15 Hw15
                  go_wp2_with fail
                  refine (r8Same_any _ _ msg msg _ Hx16.out.ri Hm16.out.ri).mono ?_
                  rw [eqL_self]
                  rintro e w17 ⟨rfl, n17, hw17⟩
                  have hB17 := bnext hB16 (below_of_drew hw17)
                  clear hw17 hB16 Hx16 Hm16
                  go_wp2
                  go_ret
                  exact ⟨rfl, hB17⟩

set_option maxRecDepth 100000 in
theorem lifted (os : Os) (started : os.Started) (H : Type) (enc : TypeId × Value → H) :
    ReturnsInHanded {} Try.checked os 3 .any (Rows.fnSharesSpec.pre6 enc Try.prog Try.f3 Rows.fnSharesRow.domain false) (Rows.fnSharesSpec.post enc Try.prog Try.f3 false true false false) := by
  refine returnsInHanded_of_change (C := Try.checked) own started (by kernel_rfl) Try.func3
    (ChangeSpec.witness6 (enc := enc) (C := Try.checked) false ⟨#[], #[.slice none 0 0, .slice none 0 0], []⟩ 8 (by kernel_rfl) (by kernel_rfl) (by kernel_rfl) (by kernel_rfl)) ?_
  intro W base args ds gs before hval0 hW hcnd _
  have hval : ∀ (j : Nat) t v, Try.f3.params[j]? = some t → args[j]? = some v → Value.okWide Try.prog W .any base t v := hval0
  have hW' := hW
  obtain ⟨p, q, hA0, hV, rfl, hfz, hnd⟩ := hW
  have hA : DataW.TrodAll enc Try.prog W 0 (fun _ => true) true Try.f3.params.toList args.toList ds p := hA0
  rw [Try.params3] at hA hval
  obtain ⟨v0, vs0, d0, ds0, p0, q0, hargs, rfl, rfl, h0, r0⟩ := trodAll_cons hA
  obtain ⟨v1, vs1, d1, ds1, p1, q1, rfl, rfl, rfl, h1, r1⟩ := trodAll_cons r0
  obtain ⟨rfl, rfl, rfl⟩ := trodAll_nil r1
  obtain rfl : args = #[v0, v1] := by cases args; simp_all
  obtain ⟨rfl, rfl⟩ := trodVars_none hV
  have k0 := h0
  have lt0 : ∀ x ∈ p0, x.block < W.heap.size := by obtain ⟨m, hm⟩ := k0; exact DataW.trod_lt m _ _ _ hm
  obtain ⟨z0, w0⟩ := view_bytes (hval 0 22 v0 rfl rfl) h0
  have k1 := h1
  have lt1 : ∀ x ∈ p1, x.block < W.heap.size := by obtain ⟨m, hm⟩ := k1; exact DataW.trod_lt m _ _ _ hm
  obtain ⟨z1, w1⟩ := view_bytes (hval 1 22 v1 rfl rfl) h1
  clear hA0 hval0
  refine (walk v0 z0 v1 z1 W w0 w1).mono fun e W' ⟨he, bel⟩ => ?_
  subst he
  exact ⟨_, rfl, _, _, _, [], _, [], hW', trodAll_mk1 (shut_bool Try.underlying4 _), (trodAll_cons_mk (Below.trod laidOut (by kernel_rfl) (of_decide_eq_true (by kernel_rfl)) k0 bel lt0) (trodAll_cons_mk (Below.trod laidOut (by kernel_rfl) (of_decide_eq_true (by kernel_rfl)) k1 bel lt1) trodAll_mk0)), rfl, bel.frame _, fun h => by cases h⟩

theorem over : Rows.fnSharesRow.holds Try.pinned (OpenSpec.ofChange Rows.fnSharesSpec) :=
  OpenClaim.holds_of_wide 3 Try.f3 rfl rfl rfl rfl rfl rfl rfl ⟨rfl, rfl, rfl, rfl, rfl⟩ rfl rfl rfl rfl rfl (by kernel_rfl) Try.func3 (by kernel_rfl)
    (of_decide_eq_true (by kernel_rfl)) (by unfold Func.isWrapper; first | (rw [if_pos (by decide +kernel)]; kernel_rfl) | (rw [if_neg (by decide +kernel)]; exact ⟨rfl, rfl⟩))
    (fun os started H enc _ => lifted os started H enc)

theorem proved : Rows.FnSharesSaid := over
end Go.Proofs.Ytgkciionmhoofaa.fnShares
