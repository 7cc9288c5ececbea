/- 'laws.FnStated' returns true for all arguments: texts come back from their states, whose shares make the whole, and places have as many letters as shares tell. No conditions. -/
import Derived.Test.YtnhcoggjnbldiaaStdP
import Derived.Test.YtnhcoggjnbldiaaCntD
import Derived.Test.YtnhcoggjnbldiaaEq
import Derived.Test.YtnhcoggjnbldiaaShfI
import Derived.Test.YtnhcoggjnbldiaaStTS
import Derived.Test.YtnhcoggjnbldiaaSbI
import Derived.Test.YtnhcoggjnbldiaaAppC
import Derived.Test.YtnhcoggjnbldiaaPop
import Derived.Test.YtnhcoggjnbldiaaSprS
import Derived.Test.YtnhcoggjnbldiaaFrame
namespace Go.Proofs.Ytnhcoggjnbldiaa.fnStated
open Go.ChangeShapes Go.WideShapes Go.ChangeAt Go.RowKit
set_option maxRecDepth 100000
set_option linter.unusedVariables false
set_option linter.unusedSimpArgs false

set_option maxHeartbeats 8000000 in
theorem walk (v0 : Value) (z0 : List Int) (v1 : Value) (z1 : List Int) (w : World) (h0 : RB w v0 z0) (h1 : RB w v1 z1) :
    Calls Try.prog 3 #[v0, v1] w fun e w' => e = .returned (.bool true) ∧ Below w.heap.size w w' := by
  by_cases hlong : (decide (1048576 < z0.length) || decide (1048576 < z1.length)) = true
  · go_enter Try.func3, Try.ntmps3
    go_wp2_with fail
    refine (b10Long_any _ _ z0 z1 _ h0 h1).mono ?_
    rw [hlong]
    rintro e w1 ⟨rfl, rfl⟩
    go_wp2
    go_ret
    exact ⟨rfl, Below.refl _ _⟩
  · have hlong : (decide (1048576 < z0.length) || decide (1048576 < z1.length)) = false := by simpa using hlong
    have hl0 : z0.length ≤ 1048576 := by
      rcases Nat.lt_or_ge 1048576 z0.length with h | h
      · rw [decide_eq_true h] at hlong; simp at hlong
      · exact h
    have hl1 : z1.length ≤ 1048576 := by
      rcases Nat.lt_or_ge 1048576 z1.length with h | h
      · rw [decide_eq_true h] at hlong; simp at hlong
      · exact h
    have H0 := Lib.hid h0
    have H1 := Lib.hid h1
    have Hlong := Lib.hid hlong
    clear h0 h1 hlong
    go_enter Try.func3, Try.ntmps3
    go_wp2_with fail
    refine (b10Long_any _ _ z0 z1 _ H0.out H1.out).mono ?_
    rw [Hlong.out]
    rintro e w1 ⟨rfl, rfl⟩
    go_wp2_with fail
    refine (b10At_any _ z1 0 5 _ H1.out (by omega) (by omega) (by omega)).mono ?_
    rintro e w1 ⟨a, ha0, ha1, rfl, rfl⟩
    obtain ⟨A, rfl⟩ := Int.eq_ofNat_of_zero_le ha0
    have e2 : (2 : Int) + (A : Int) = ((2 + A : Nat) : Int) := by omega
    obtain ⟨l, hl⟩ : ∃ l, 2 + A = l := ⟨_, rfl⟩
    rw [hl] at e2
    have hl2 : 2 ≤ l := by omega
    have hl6 : l ≤ 6 := by omega
    clear ha0 ha1 hl
    go_wp2_with fail
    refine (b10Counts_any _ z0 l _ H0.out (by omega) (by omega)).mono ?_
    rintro e w2 ⟨vc, cs, rfl, hoc, hcl, hcz, hB2⟩
    obtain ⟨ac, pc, rfl⟩ := hoc.shape
    obtain ⟨w3, hw3⟩ : ∃ w3, w2.alloc (.cells #[.int .i64 l, .slice ac cs.length pc] 27) = w3 := ⟨_, rfl⟩
    have hb3 : Below w2.heap.size w2 w3 := by rw [← hw3]; go_grown
    have Hc3 := Lib.hid (show w3.heap[w2.heap.size]? = some (.cells #[.int .i64 l, .slice ac cs.length pc] 27 (0, 0)) by rw [← hw3]; exact heap_alloc_new _ _)
    have Ho3 := Lib.hid (hoc.below hb3)
    have hB3 := bnext hB2 hb3
    have Hcts := Lib.hid (cts_of hl2 hl6 hcl hcz)
    have Hcl := Lib.hid hcl
    clear hoc hcl hcz hB2 hb3
    go_wp2_with fail
    refine (b10At_any _ z1 1 5 _ (H1.out.below hB3) (by omega) (by omega) (by omega)).mono ?_
    rintro e w4 ⟨b, hb0, hb1, rfl, rfl⟩
    obtain ⟨P0, rfl⟩ := Int.eq_ofNat_of_zero_le hb0
    have e3 : (3 : Int) + (P0 : Int) = ((3 + P0 : Nat) : Int) := by omega
    obtain ⟨P, hP⟩ : ∃ P, 3 + P0 = P := ⟨_, rfl⟩
    rw [hP] at e3
    have hP3 : 3 ≤ P := by omega
    have hP7 : P ≤ 7 := by omega
    clear hb0 hb1 hP hw3
    obtain ⟨c0, c1, c2, c3⟩ := blk2 Hc3.out
    go_wp2_with fail
    obtain ⟨one, hone⟩ : ∃ b, shfOk l cs P = b := ⟨_, rfl⟩
    obtain ⟨N1, hN1⟩ : ∃ b, shfN l cs P = b := ⟨_, rfl⟩
    obtain ⟨zs, hzs⟩ : ∃ b, shfZ l cs P = b := ⟨_, rfl⟩
    have HK := Lib.hid (show one = true → N1 = (P : Int) ∧ shs P zs = true ∧ zs.length = cs.length from fun h => ⟨by rw [← hN1]; exact (shf_ok (hone.trans h)).1, by rw [← hzs]; exact (shf_ok (hone.trans h)).2.1, by rw [← hzs]; exact shf_len (hone.trans h)⟩)
    have He := Lib.hid (And.intro hone (And.intro hN1 hzs))
    clear hone hN1 hzs
    refine (implShf_any l _ cs P _ Ho3.out.ri).mono ?_
    rw [He.out.1, He.out.2.1, He.out.2.2]
    rintro e w5 ⟨vt, rfl, hot, hb5⟩
    obtain ⟨at1, pt, rfl⟩ := hot.shape
    obtain ⟨w6, hw6⟩ : ∃ w6, w5.alloc (.cells #[.int .i64 N1, .slice at1 zs.length pt] 30) = w6 := ⟨_, rfl⟩
    have hb6 : Below w5.heap.size w5 w6 := by rw [← hw6]; go_grown
    have Ht6 := Lib.hid (show w6.heap[w5.heap.size]? = some (.cells #[.int .i64 N1, .slice at1 zs.length pt] 30 (0, 0)) by rw [← hw6]; exact heap_alloc_new _ _)
    have Hot6 := Lib.hid ((hot.mono hB3.size).below hb6)
    have hb56 := bnext hb5 hb6
    have Hc6 := Lib.hid (blk_next hb56 Hc3.out)
    have Ho6 := Lib.hid (Ho3.out.below hb56)
    have hB6 := bnext hB3 hb56
    clear hot hb5 hb6 hb56 hB3 Hc3 Ho3 c0 c1 c2 c3
    obtain ⟨c0, c1, c2, c3⟩ := blk2 Hc6.out
    go_wp2_with fail
    refine (specShf_any l _ cs P _ Ho6.out.ri).mono ?_
    rw [He.out.1, He.out.2.1, He.out.2.2]
    rintro e w7 ⟨vt2, rfl, hot2, hb7⟩
    obtain ⟨at2, pt2, rfl⟩ := hot2.shape
    obtain ⟨w8, hw8⟩ : ∃ w8, w7.alloc (.cells #[.int .i64 N1, .slice at2 zs.length pt2] 30) = w8 := ⟨_, rfl⟩
    have hb8 : Below w7.heap.size w7 w8 := by rw [← hw8]; go_grown
    have hb78 := bnext hb7 hb8
    have Ht8 := Lib.hid (blk_next hb78 Ht6.out)
    have Hot8 := Lib.hid (Hot6.out.below hb78)
    have hB8 := bnext hB6 hb78
    clear hot2 hb7 hb8 hb78 hB6 Hc6 Ho6 c0 c1 c2 c3 Ht6 Hot6 hw6
    cases one with
    | false =>
      go_wp2
      go_ret
      exact ⟨rfl, hB8⟩
    | true =>
      obtain ⟨hN, hs, hzl⟩ := HK.out rfl
      subst hN
      have Hs := Lib.hid hs
      have Hzl := Lib.hid (hzl.trans Hcl.out)
      clear hs hzl HK He
      obtain ⟨t0, t1, t2, t3⟩ := blk2 Ht8.out
      go_wp2_with fail
      refine (implSpread_any P _ zs _ Hot8.out.ri).mono ?_
      rw [Hs.out]
      rintro e w9 ⟨vp, rfl, hop, hb9⟩
      obtain ⟨pl, hpl⟩ : ∃ pl, stN (P : Int) zs = pl := ⟨_, rfl⟩
      have hpe : pl = spr P zs := by rw [← hpl, stN, if_pos Hs.out, Int.toNat_natCast]
      have Hpc := Lib.hid (show ∀ x : Nat, pl.countP (· == (x : Int)) = (zs.getD x 0).toNat from fun x => by rw [hpe]; have := spr_count Hs.out x; rwa [Int.toNat_natCast] at this)
      have Hpll := Lib.hid (show pl.length = 2 ^ P by rw [hpe]; exact spr_len _ _)
      rw [hpl] at hop
      obtain ⟨ap, pp, rfl⟩ := hop.shape
      have Hop := Lib.hid (hop.mono hB8.size)
      have Ht := Lib.hid (blk_next hb9 Ht8.out)
      have Hot := Lib.hid (Hot8.out.below hb9)
      have hB9 := bnext hB8 hb9
      clear hpl hpe hop Ht8 Hot8 hB8 hb9 hw8 t0 t1 t2 t3
      go_wp2_with fail
      refine (b10At_any _ z1 2 30 _ (H1.out.below hB9) (by omega) (by omega) (by omega)).mono ?_
      rintro e w4 ⟨b, hb0, hb1, rfl, rfl⟩
      obtain ⟨nn, rfl⟩ := Int.eq_ofNat_of_zero_le hb0
      clear hb0
      go_wp2_with fail
      refine (b10Letters_any _ z1 l nn _ (H1.out.below hB9) (by omega) (by omega) (by omega) (by omega)).mono ?_
      rintro e w10 ⟨vx, ts, rfl, hox, hxl, hxz, hb10⟩
      obtain ⟨ax, px, rfl⟩ := hox.shape
      have Htx := Lib.hid (show txt ts (l : Int) = true by
        simp only [txt, sgn, inB, Bool.and_eq_true, decide_eq_true_eq, allIn_iff]
        exact ⟨⟨⟨by omega, by omega⟩, by omega⟩, fun z hz => by have := hxz z hz; omega⟩)
      have htl : ts.length ≤ 64 := by omega
      have Hox := Lib.hid (hox.mono hB9.size)
      have Hop := Lib.hid (Hop.out.below hb10)
      have Ht := Lib.hid (blk_next hb10 Ht.out)
      have Hot := Lib.hid (Hot.out.below hb10)
      have hB10 := bnext hB9 hb10
      clear hox hxl hxz hb10 hB9 hb1
      obtain ⟨t0, t1, t2, t3⟩ := blk2 Ht.out
      go_wp2_with fail
      refine (implShares_any P _ zs _ Hot.out.ri).mono ?_
      rw [Hs.out]
      rintro e w11 ⟨rfl, hb11⟩
      have Hox := Lib.hid (Hox.out.below hb11)
      have Hop := Lib.hid (Hop.out.below hb11)
      have Ht := Lib.hid (blk_next hb11 Ht.out)
      have Hot := Lib.hid (Hot.out.below hb11)
      have hB11 := bnext hB10 hb11
      clear hb11 hB10 t0 t1 t2 t3
      obtain ⟨t0, t1, t2, t3⟩ := blk2 Ht.out
      go_wp2_with fail
      refine (specShares_any P _ zs _ Hot.out.ri).mono ?_
      rw [Hs.out]
      rintro e w12 ⟨rfl, hb12⟩
      have Hox := Lib.hid (Hox.out.below hb12)
      have Hop := Lib.hid (Hop.out.below hb12)
      have Ht := Lib.hid (blk_next hb12 Ht.out)
      have Hot := Lib.hid (Hot.out.below hb12)
      have hB12 := bnext hB11 hb12
      clear hb12 hB11 t0 t1 t2 t3
      obtain ⟨t0, t1, t2, t3⟩ := blk2 Ht.out
      have e14 : ((zs.length : Int) != (l : Int)) = false := by have := Hzl.out; simp; omega
      obtain ⟨q1, q2⟩ := pow8 P (by omega)
      have e15 : ((pl.length : Int) != (2 : Int) ^ P) = false := by have := Hpll.out; simp; rw [this]; simp
      go_wp2_with fail
      obtain ⟨bp, op, ep, -, hcp⟩ := Hop.out.2.rg.cells (by rw [Hpll.out]; exact Nat.two_pow_pos P)
      obtain rfl := ep
      obtain ⟨bz, oz, ez, -, hcz⟩ := Hot.out.2.rg.cells (by have := Hzl.out; omega)
      obtain rfl := ez
      have Hcp := Lib.hid hcp
      have Hcz := Lib.hid hcz
      have hplA : pl.length ≤ 256 := by rw [Hpll.out]; exact Nat.le_trans (Nat.pow_le_pow_right (by decide) hP7) (by decide)
      have hzA : zs.length ≤ l := by have := Hzl.out; omega
      have hzB : l ≤ zs.length := by have := Hzl.out; omega
      have Hzp := Lib.hid (show ∀ x (h : x < zs.length), ((zs.getD x 0).toNat : Int) = zs[x] from fun x h => by
        obtain ⟨n, -, -, -, -, -, hz, -⟩ := shs_parts Hs.out
        have := hz zs[x] (List.getElem_mem h)
        rw [List.getD_eq_getElem?_getD, List.getElem?_eq_getElem h, Option.getD_some]; omega)
      have hB12s := hB12.size
      have Hox12 := Hox
      clear hcp hcz e14 e15 q1 q2
      go_loopw [15] (fun xv wr => ∃ x : Nat, xv = .int .i64 x ∧ x ≤ l ∧ Below w12.heap.size w12 wr) (fun xv _ => l - (intOf xv).toNat)
      case atStart => exact ⟨0, rfl, Nat.zero_le _, Below.refl _ _⟩
      case round =>
        obtain ⟨x, rfl, hx, hbl⟩ := hrel
        clear t0 t1 t2 t3
        have Ht := Lib.hid (blk_next hbl Ht.out)
        obtain ⟨t0, t1, t2, t3⟩ := blk2 Ht.out
        by_cases hxl : x < l
        · have hxI : (x : Int) < (l : Int) := by omega
          have hxz : x < zs.length := by omega
          go_wp2_with fail
          go_loopw [16, 102] (fun cv iv wq => ∃ (c i : Nat), cv = .int .i64 c ∧ iv = .int .i64 i ∧ i ≤ pl.length ∧ c = cnt pl (x : Int) i ∧ Below wr.heap.size wr wq) (fun _ iv _ => pl.length - (intOf iv).toNat)
          case atStart => exact ⟨0, 0, rfl, rfl, Nat.zero_le _, (cnt_zero _ _).symm, Below.refl _ _⟩
          case round =>
            obtain ⟨c, i, rfl, rfl, hi, hc, hbq⟩ := hrel
            have hci : c ≤ i := by rw [hc]; exact cnt_le _ _ _
            have Hc := Lib.hid hc
            clear hc
            by_cases hil : i < pl.length
            · have hct := cnext hbq (cnext hbl (Hcp.out i hil))
              have Hy := Lib.hid (show ∀ y, pl[i] = y → y = (x : Int) → cnt pl (x : Int) (i + 1) = cnt pl (x : Int) i + 1 from fun y h1 h2 => cnt_yes _ _ _ hil (h1.trans h2))
              have Hn := Lib.hid (show ∀ y, pl[i] = y → ¬ y = (x : Int) → cnt pl (x : Int) (i + 1) = cnt pl (x : Int) i from fun y h1 h2 => cnt_no _ _ _ hil (by rw [h1]; exact h2))
              obtain ⟨y, hy⟩ : ∃ y, pl[i] = y := ⟨_, rfl⟩
              rw [hy] at hct
              have Hpy := Lib.hid hy
              clear hy
              by_cases hyx : y = (x : Int)
              · have hye : (y == (x : Int)) = true := by simp [hyx]
                have Hyx := Lib.hid hyx
                clear hyx
                go_wp2
                go_roundw
                case rel => exact ⟨c + 1, i + 1, by go_num, by go_num, by omega, by rw [Hy.out y Hpy.out Hyx.out, ← Hc.out], by assumption⟩
                case measure => simp [intOf] <;> omega
              · have hye : (y == (x : Int)) = false := by simp [hyx]
                have Hyx := Lib.hid hyx
                clear hyx
                go_wp2
                go_roundw
                case rel => exact ⟨c, i + 1, by go_num, by go_num, by omega, by rw [Hn.out y Hpy.out Hyx.out, ← Hc.out], by assumption⟩
                case measure => simp [intOf] <;> omega
            · have hie : pl.length = i := by omega
              have hcz := cnext hbq (cnext hbl (Hcz.out x hxz))
              have hcc : (c : Int) = zs[x] := by
                rw [Hc.out, ← hie, cnt, List.take_length, Hpc.out, Hzp.out x hxz]
              rw [← hcc] at hcz
              have Hbq := Lib.hid (bnext hbl hbq)
              have Ht := Lib.hid (blk_next hbq Ht.out)
              clear t0 t1 t2 t3 hcc
              obtain ⟨t0, t1, t2, t3⟩ := blk2 Ht.out
              have hcne : ((c : Int) != (c : Int)) = false := by simp
              have hxz' : (x : Int) < (zs.length : Int) := by omega
              clear hbl hbq
              go_wp2
              go_roundw
              case rel => exact ⟨x + 1, by go_num, by omega, Hbq.out⟩
              case measure => simp [intOf] <;> omega
        · have hie : l = x := by omega
          subst hie
          have Hox := Lib.hid (Hox.out.below hbl)
          have Hot := Lib.hid (Hot.out.below hbl)
          have hB13 := bnext hB12 hbl
          have Hsb := Lib.hid (show sbOk (P : Int) zs ts = true by rw [sbOk, Hs.out, Hzl.out, Htx.out]; rfl)
          have SB := st_back Hsb.out
          obtain ⟨S, hS⟩ : ∃ S, sbS (P : Int) zs ts = S := ⟨_, rfl⟩
          obtain ⟨Z, hZ⟩ : ∃ Z, sbZ (P : Int) zs ts = Z := ⟨_, rfl⟩
          rw [hS, hZ] at SB
          have HSB := Lib.hid SB
          have HS := Lib.hid (And.intro hS hZ)
          clear SB hS hZ hbl hB12 Hop Hcp Hcz Hpc Hpll
          go_wp2_with fail
          refine (implSb_any P _ zs _ ts _ Hot.out.ri Hox.out.ri).mono ?_
          rw [Hsb.out, HS.out.1, HS.out.2]
          rintro e w21 ⟨v21, rfl, ho21, hb21⟩
          obtain ⟨a21, p21, rfl, hl21, hm21, -⟩ := ho21.rg
          have Hbt := Lib.hid (ho21.mono hB13.size)
          have Hox := Lib.hid (Hox.out.below hb21)
          have Hot := Lib.hid (Hot.out.below hb21)
          have Ht := Lib.hid (blk_next hb21 Ht.out)
          have hB21 := bnext hB13 hb21
          clear hb21 hB13 t0 t1 t2 t3
          obtain ⟨t0, t1, t2, t3⟩ := blk2 Ht.out
          clear ho21
          go_wp2_with fail
          refine (specSb_any P _ zs _ ts _ Hot.out.ri Hox.out.ri).mono ?_
          rw [Hsb.out, HS.out.1, HS.out.2]
          rintro e w22 ⟨v22, rfl, ho22, hb22⟩
          obtain ⟨a22, p22, rfl⟩ := ho22.rg.shape
          have Hox := Lib.hid (Hox.out.below hb22)
          have Hot := Lib.hid (Hot.out.below hb22)
          have Hbt := Lib.hid (Hbt.out.below hb22)
          have Ht := Lib.hid (blk_next hb22 Ht.out)
          have hB22 := bnext hB21 hb22
          clear hb22 hB21 t0 t1 t2 t3
          obtain ⟨t0, t1, t2, t3⟩ := blk2 Ht.out
          clear ho22
          have hSS : (S != S) = false := by simp
          have hZZ : ((Z.length : Int) != (Z.length : Int)) = false := by simp
          go_wp2_with fail
          refine (implStT_any P _ zs _ Z S ts.length _ Hot.out.ri Hbt.out.rg).mono ?_
          rw [HSB.out.1, HSB.out.2]
          rintro e w23 ⟨v23, rfl, ho23, hb23⟩
          obtain ⟨a23, p23, rfl⟩ := ho23.shape
          have Hbk := Lib.hid (ho23.mono hB22.size)
          have Hox := Lib.hid (Hox.out.below hb23)
          have Hot := Lib.hid (Hot.out.below hb23)
          have Hbt := Lib.hid (Hbt.out.below hb23)
          have Ht := Lib.hid (blk_next hb23 Ht.out)
          have hB23 := bnext hB22 hb23
          clear hb23 hB22 t0 t1 t2 t3
          obtain ⟨t0, t1, t2, t3⟩ := blk2 Ht.out
          clear ho23
          go_wp2_with fail
          refine (b10Ints_any _ _ ts ts _ Hbk.out.ri Hox.out.ri).mono ?_
          rw [eqL_self]
          rintro e w24 ⟨rfl, n24, hw24⟩
          have hb24 := below_of_drew hw24
          clear hw24
          have Hox := Lib.hid (Hox.out.below hb24)
          have Hot := Lib.hid (Hot.out.below hb24)
          have Hbt := Lib.hid (Hbt.out.below hb24)
          have Ht := Lib.hid (blk_next hb24 Ht.out)
          have hB24 := bnext hB23 hb24
          clear hb24 hB23 t0 t1 t2 t3
          obtain ⟨t0, t1, t2, t3⟩ := blk2 Ht.out
          by_cases hz0 : Z.length = 0
          · have hz0' : ((Z.length : Int) == 0) = true := by rw [hz0]; rfl
            go_wp2
            go_ret
            exact ⟨rfl, hB24⟩
          · have hz0' : ((Z.length : Int) == 0) = false := by rw [beq_eq_false_iff_ne]; omega
            have hZA : 1 ≤ Z.length := by omega
            have hZI : (1 : Int) ≤ (Z.length : Int) := by omega
            have HZL := Lib.hid (show Z.length ≤ 1024 from by rw [← HS.out.2]; exact sbZ_len _ _ _)
            obtain ⟨bb, ob, eb, -, hcb⟩ := Hbt.out.rg.cells (by omega)
            obtain rfl := eb
            obtain ⟨Zt, hZt⟩ : ∃ Zt, Z.tail = Zt := ⟨_, rfl⟩
            have HZn := Lib.hid (show Zt.length + 1 = Z.length by rw [← hZt, List.length_tail]; omega)
            have Hct := Lib.hid (show ∀ j (hj : j < Zt.length), w24.cell? ⟨bb, ob + 1 + j, none⟩ = some (.bool Zt[j]) from fun j hj => by
              subst hZt
              rw [List.getElem_tail, show ob + 1 + j = ob + (j + 1) by omega]
              exact hcb (j + 1) (by rw [List.length_tail] at hj; omega))
            clear hcb hZt
            by_cases hp21 : p21 = 1
            · skip
              go_wp2_with fail
              refine wp_region_held_drew (S := fun W' => Below w24.heap.size w24 W' ∧ (W'.cell? ⟨w5.heap.size, 0, none⟩ = some (.int .i64 P) ∧ W'.cell? ⟨w5.heap.size, 1, none⟩ = some (.slice (some ⟨bz, oz, none⟩) zs.length pt))) (by kernel_rfl) ?_ (fun hHeld => ?_)
              · (try go_split_ands); refine ⟨?_, ?_, ?_⟩ <;> first | assumption | exact Below.refl _ _ | (go_grown; done) | exact cnext (by assumption) (by assumption) | exact bnext (by assumption) (by assumption) | exact cnext (show Below w24.heap.size w24 _ by first | assumption | go_grown) t0 | exact cnext (show Below w24.heap.size w24 _ by first | assumption | go_grown) t1 | go_keep
              refine wpAnyH_tk (i := 0) (v := ?_) (some 174) rfl rfl (by kernel_rfl) (by decide +kernel) (by decide +kernel) (fun _ _ _ h => h) (by kernel_rfl) ?_ hHeld ?_
              rotate_left
              · (intro w hSw; (try dsimp only at hSw); go_simp <;> with_reducible rfl)
              (try simp only [Act.put, List.setIfInBounds_toArray, List.set_cons_zero, List.set_cons_succ])
              refine wpAnyH_tk (i := 2) (v := ?_) (some 176) rfl rfl (by kernel_rfl) (by decide +kernel) (by decide +kernel) (fun _ _ _ h => h) (by kernel_rfl) ?_ hHeld ?_
              rotate_left
              · (intro w hSw; (try dsimp only at hSw); go_simp <;> with_reducible rfl)
              (try simp only [Act.put, List.setIfInBounds_toArray, List.set_cons_zero, List.set_cons_succ])
              refine wpAnyH_tk (i := 3) (v := ?_) (some 177) rfl rfl (by kernel_rfl) (by decide +kernel) (by decide +kernel) (fun _ _ _ h => h) (by kernel_rfl) ?_ hHeld ?_
              rotate_left
              · (intro w hSw; (try dsimp only at hSw); go_simp <;> with_reducible rfl)
              (try simp only [Act.put, List.setIfInBounds_toArray, List.set_cons_zero, List.set_cons_succ])
              refine wpAnyH_tk (i := 5) (v := ?_) (some 179) rfl rfl (by kernel_rfl) (by decide +kernel) (by decide +kernel) (fun _ _ _ h => h) (by kernel_rfl) ?_ hHeld ?_
              rotate_left
              · (intro w hSw; (try dsimp only at hSw); go_simp <;> with_reducible rfl)
              (try simp only [Act.put, List.setIfInBounds_toArray, List.set_cons_zero, List.set_cons_succ])
              refine wpAnyH_tk (i := 6) (v := ?_) (some 180) rfl rfl (by kernel_rfl) (by decide +kernel) (by decide +kernel) (fun _ _ _ h => h) (by kernel_rfl) ?_ hHeld ?_
              rotate_left
              · (intro w hSw; (try dsimp only at hSw); go_simp <;> with_reducible rfl)
              (try simp only [Act.put, List.setIfInBounds_toArray, List.set_cons_zero, List.set_cons_succ])
              refine wpAnyH_tk (i := 7) (v := ?_) (some 181) rfl rfl (by kernel_rfl) (by decide +kernel) (by decide +kernel) (fun _ _ _ h => h) (by kernel_rfl) ?_ hHeld ?_
              rotate_left
              · (intro w hSw; (try dsimp only at hSw); go_simp <;> with_reducible rfl)
              (try simp only [Act.put, List.setIfInBounds_toArray, List.set_cons_zero, List.set_cons_succ])
              refine wpAnyH_ready (rs := [1]) (by kernel_rfl) (by simp) ?_
              refine AllReadyH.cons rfl (fun K hK => ?_) AllReadyH.nil
              go_simp
              refine hK.out _ _ ?_ (fun hHeld => ?_)
              · (try go_split_ands); refine ⟨?_, ?_, ?_⟩ <;> first | assumption | exact Below.refl _ _ | (go_grown; done) | exact cnext (by assumption) (by assumption) | exact bnext (by assumption) (by assumption) | exact cnext (show Below w24.heap.size w24 _ by first | assumption | go_grown) t0 | exact cnext (show Below w24.heap.size w24 _ by first | assumption | go_grown) t1 | go_keep
              clear hK K
              (try simp only [Act.put, List.setIfInBounds_toArray, List.set_cons_zero, List.set_cons_succ])
              refine wpAnyH_ready (rs := [4]) (by kernel_rfl) (by simp) ?_
              refine AllReadyH.cons rfl (fun K hK => ?_) AllReadyH.nil
              have hE : OwnB w24.heap.size ((w24.alloc (.cells #[] 4)).drew) (.slice (some ⟨w24.heap.size, 0, none⟩) 0 0) [] := ownB_empty w24.drew _ (Nat.le_refl _)
              have hBw : Below w24.heap.size w24 ((w24.alloc (.cells #[] 4)).drew) := by first | exact hHeld.1 | go_grown
              refine step_appB rfl (.tmp 175) (.tmp 177) rfl w24.heap.size w24.heap.size (Nat.le_refl _) (.slice (some ⟨w24.heap.size, 0, none⟩) 0 0) [] (by simp [Act.eval, Act.put]) hE hBw Zt (if p21 = 1 then ⟨bb, ob, none⟩ else ⟨bb, ob + 1, none⟩) (p21 - 1) (by by_cases hp : p21 = 1 <;> simp [Act.eval, Act.put, hp] <;> have h9 := HZn.out <;> omega) (fun j hj => by
                have h7 := cnext hBw (Hct.out j hj)
                have h8 := HZn.out
                rw [if_neg (by omega), Addr.add_lit]; exact h7) (by have := HZL.out; have := HZn.out; simp; omega) hBw.size ?_
              intro v37 w31 hown1 hB1 hg1
              rw [List.nil_append] at hown1
              obtain ⟨aq37, cq37, rfl⟩ := hown1.shape
              refine hK.out _ _ ?_ (fun hHeld => ?_)
              · (try go_split_ands); refine ⟨?_, ?_, ?_⟩ <;> first | assumption | exact Below.refl _ _ | (go_grown; done) | exact cnext (by assumption) (by assumption) | exact bnext (by assumption) (by assumption) | exact cnext (show Below w24.heap.size w24 _ by first | assumption | go_grown) t0 | exact cnext (show Below w24.heap.size w24 _ by first | assumption | go_grown) t1 | go_keep
              clear hK K
              (try simp only [Act.put, List.setIfInBounds_toArray, List.set_cons_zero, List.set_cons_succ])
              refine wpAnyH_ready (rs := [8]) (by kernel_rfl) (by simp) ?_
              refine AllReadyH.cons rfl (fun K hK => ?_) AllReadyH.nil
              go_simp
              with_reducible refine Calls.mono (implStT_any P _ zs _ Zt S ts.length _ (Hot.out.below hHeld.1).ri (hown1.og.rg.below (by first | exact Below.refl _ _ | (go_grown; done) | exact below_drewN _ 1))) ?_
              rintro e w37b ⟨v37b, rfl, ho37b, hb37b⟩
              have hB37b := bnext hHeld.1 hb37b
              obtain ⟨ab37, cb37, rfl⟩ := ho37b.shape
              try go_wp2_with fail
              refine hK.out _ _ ?_ (fun hHeld => ?_)
              · (try go_split_ands); refine ⟨?_, ?_, ?_⟩ <;> first | assumption | exact Below.refl _ _ | (go_grown; done) | exact cnext (by assumption) (by assumption) | exact bnext (by assumption) (by assumption) | exact cnext (show Below w24.heap.size w24 _ by first | assumption | go_grown) t0 | exact cnext (show Below w24.heap.size w24 _ by first | assumption | go_grown) t1 | go_keep
              clear hK K
              (try simp only [Act.put, List.setIfInBounds_toArray, List.set_cons_zero, List.set_cons_succ])
              refine wpAnyH_tk (i := 9) (v := ?_) (some 173) rfl rfl (by kernel_rfl) (by decide +kernel) (by decide +kernel) (fun _ _ _ h => h) (by kernel_rfl) ?_ hHeld ?_
              rotate_left
              · (intro w hSw; (try dsimp only at hSw); go_simp <;> with_reducible rfl)
              (try simp only [Act.put, List.setIfInBounds_toArray, List.set_cons_zero, List.set_cons_succ])
              refine wpAnyH_tk (i := 10) (v := ?_) (some 183) rfl rfl (by kernel_rfl) (by decide +kernel) (by decide +kernel) (fun _ _ _ h => h) (by kernel_rfl) ?_ hHeld ?_
              rotate_left
              · (intro w hSw; (try dsimp only at hSw); go_simp <;> with_reducible rfl)
              (try simp only [Act.put, List.setIfInBounds_toArray, List.set_cons_zero, List.set_cons_succ])
              refine wpAnyH_tk (i := 11) (v := ?_) (some 184) rfl rfl (by kernel_rfl) (by decide +kernel) (by decide +kernel) (fun _ _ _ h => h) (by kernel_rfl) ?_ hHeld ?_
              rotate_left
              · (intro w hSw; (try dsimp only at hSw); go_simp <;> with_reducible rfl)
              (try simp only [Act.put, List.setIfInBounds_toArray, List.set_cons_zero, List.set_cons_succ])
              refine wpAnyH_tk (i := 12) (v := ?_) (some 26) rfl rfl (by kernel_rfl) (by decide +kernel) (by decide +kernel) (fun _ _ _ h => h) (by kernel_rfl) ?_ hHeld ?_
              rotate_left
              · (intro w hSw; (try dsimp only at hSw); go_simp <;> with_reducible rfl)
              (try simp only [Act.put, List.setIfInBounds_toArray, List.set_cons_zero, List.set_cons_succ])
              refine wpAnyH_tk (i := 13) (v := ?_) (some 27) rfl rfl (by kernel_rfl) (by decide +kernel) (by decide +kernel) (fun _ _ _ h => h) (by kernel_rfl) ?_ hHeld ?_
              rotate_left
              · (intro w hSw; (try dsimp only at hSw); go_simp <;> with_reducible rfl)
              (try simp only [Act.put, List.setIfInBounds_toArray, List.set_cons_zero, List.set_cons_succ])
              refine wpAnyH_done (by kernel_rfl) ?_ _
              have Hot := Lib.hid (Hot.out.below hB37b)
              have Hct := Lib.hid (show ∀ j (hj : j < Zt.length), w37b.cell? ⟨bb, ob + 1 + j, none⟩ = some (.bool Zt[j]) from fun j hj => cnext hB37b (Hct.out j hj))
              have Ht := Lib.hid (blk_next hB37b Ht.out)
              have hB38 := bnext hB24 hB37b
              clear t0 t1 t2 t3 hHeld hown1 hB1 hg1 hE hBw
              obtain ⟨t0, t1, t2, t3⟩ := blk2 Ht.out
              go_wp2_with fail
              refine wp_region_held_drew (S := fun W' => Below w37b.heap.size w37b W' ∧ (W'.cell? ⟨w5.heap.size, 0, none⟩ = some (.int .i64 P) ∧ W'.cell? ⟨w5.heap.size, 1, none⟩ = some (.slice (some ⟨bz, oz, none⟩) zs.length pt))) (by kernel_rfl) ?_ (fun hHeld => ?_)
              · (try go_split_ands); refine ⟨?_, ?_, ?_⟩ <;> first | assumption | exact Below.refl _ _ | (go_grown; done) | exact cnext (by assumption) (by assumption) | exact bnext (by assumption) (by assumption) | exact cnext (show Below w37b.heap.size w37b _ by first | assumption | go_grown) t0 | exact cnext (show Below w37b.heap.size w37b _ by first | assumption | go_grown) t1 | go_keep
              refine wpAnyH_tk (i := 0) (v := ?_) (some 186) rfl rfl (by kernel_rfl) (by decide +kernel) (by decide +kernel) (fun _ _ _ h => h) (by kernel_rfl) ?_ hHeld ?_
              rotate_left
              · (intro w hSw; (try dsimp only at hSw); go_simp <;> with_reducible rfl)
              (try simp only [Act.put, List.setIfInBounds_toArray, List.set_cons_zero, List.set_cons_succ])
              refine wpAnyH_tk (i := 2) (v := ?_) (some 188) rfl rfl (by kernel_rfl) (by decide +kernel) (by decide +kernel) (fun _ _ _ h => h) (by kernel_rfl) ?_ hHeld ?_
              rotate_left
              · (intro w hSw; (try dsimp only at hSw); go_simp <;> with_reducible rfl)
              (try simp only [Act.put, List.setIfInBounds_toArray, List.set_cons_zero, List.set_cons_succ])
              refine wpAnyH_tk (i := 3) (v := ?_) (some 189) rfl rfl (by kernel_rfl) (by decide +kernel) (by decide +kernel) (fun _ _ _ h => h) (by kernel_rfl) ?_ hHeld ?_
              rotate_left
              · (intro w hSw; (try dsimp only at hSw); go_simp <;> with_reducible rfl)
              (try simp only [Act.put, List.setIfInBounds_toArray, List.set_cons_zero, List.set_cons_succ])
              refine wpAnyH_tk (i := 5) (v := ?_) (some 191) rfl rfl (by kernel_rfl) (by decide +kernel) (by decide +kernel) (fun _ _ _ h => h) (by kernel_rfl) ?_ hHeld ?_
              rotate_left
              · (intro w hSw; (try dsimp only at hSw); go_simp <;> with_reducible rfl)
              (try simp only [Act.put, List.setIfInBounds_toArray, List.set_cons_zero, List.set_cons_succ])
              refine wpAnyH_tk (i := 6) (v := ?_) (some 192) rfl rfl (by kernel_rfl) (by decide +kernel) (by decide +kernel) (fun _ _ _ h => h) (by kernel_rfl) ?_ hHeld ?_
              rotate_left
              · (intro w hSw; (try dsimp only at hSw); go_simp <;> with_reducible rfl)
              (try simp only [Act.put, List.setIfInBounds_toArray, List.set_cons_zero, List.set_cons_succ])
              refine wpAnyH_tk (i := 7) (v := ?_) (some 193) rfl rfl (by kernel_rfl) (by decide +kernel) (by decide +kernel) (fun _ _ _ h => h) (by kernel_rfl) ?_ hHeld ?_
              rotate_left
              · (intro w hSw; (try dsimp only at hSw); go_simp <;> with_reducible rfl)
              (try simp only [Act.put, List.setIfInBounds_toArray, List.set_cons_zero, List.set_cons_succ])
              refine wpAnyH_ready (rs := [1]) (by kernel_rfl) (by simp) ?_
              refine AllReadyH.cons rfl (fun K hK => ?_) AllReadyH.nil
              go_simp
              refine hK.out _ _ ?_ (fun hHeld => ?_)
              · (try go_split_ands); refine ⟨?_, ?_, ?_⟩ <;> first | assumption | exact Below.refl _ _ | (go_grown; done) | exact cnext (by assumption) (by assumption) | exact bnext (by assumption) (by assumption) | exact cnext (show Below w37b.heap.size w37b _ by first | assumption | go_grown) t0 | exact cnext (show Below w37b.heap.size w37b _ by first | assumption | go_grown) t1 | go_keep
              clear hK K
              (try simp only [Act.put, List.setIfInBounds_toArray, List.set_cons_zero, List.set_cons_succ])
              refine wpAnyH_ready (rs := [4]) (by kernel_rfl) (by simp) ?_
              refine AllReadyH.cons rfl (fun K hK => ?_) AllReadyH.nil
              have hE : OwnB w37b.heap.size ((w37b.alloc (.cells #[] 4)).drew) (.slice (some ⟨w37b.heap.size, 0, none⟩) 0 0) [] := ownB_empty w37b.drew _ (Nat.le_refl _)
              have hBw : Below w37b.heap.size w37b ((w37b.alloc (.cells #[] 4)).drew) := by first | exact hHeld.1 | go_grown
              refine step_appB rfl (.tmp 187) (.tmp 189) rfl w37b.heap.size w37b.heap.size (Nat.le_refl _) (.slice (some ⟨w37b.heap.size, 0, none⟩) 0 0) [] (by simp [Act.eval, Act.put]) hE hBw Zt (if p21 = 1 then ⟨bb, ob, none⟩ else ⟨bb, ob + 1, none⟩) (p21 - 1) (by by_cases hp : p21 = 1 <;> simp [Act.eval, Act.put, hp] <;> have h9 := HZn.out <;> omega) (fun j hj => by
                have h7 := cnext hBw (Hct.out j hj)
                have h8 := HZn.out
                rw [if_neg (by omega), Addr.add_lit]; exact h7) (by have := HZL.out; have := HZn.out; simp; omega) hBw.size ?_
              intro v38 w38 hown1 hB1 hg1
              rw [List.nil_append] at hown1
              obtain ⟨aq38, cq38, rfl⟩ := hown1.shape
              refine hK.out _ _ ?_ (fun hHeld => ?_)
              · (try go_split_ands); refine ⟨?_, ?_, ?_⟩ <;> first | assumption | exact Below.refl _ _ | (go_grown; done) | exact cnext (by assumption) (by assumption) | exact bnext (by assumption) (by assumption) | exact cnext (show Below w37b.heap.size w37b _ by first | assumption | go_grown) t0 | exact cnext (show Below w37b.heap.size w37b _ by first | assumption | go_grown) t1 | go_keep
              clear hK K
              (try simp only [Act.put, List.setIfInBounds_toArray, List.set_cons_zero, List.set_cons_succ])
              refine wpAnyH_ready (rs := [8]) (by kernel_rfl) (by simp) ?_
              refine AllReadyH.cons rfl (fun K hK => ?_) AllReadyH.nil
              go_simp
              with_reducible refine Calls.mono (specStT_any P _ zs _ Zt S ts.length _ (Hot.out.below hHeld.1).ri (hown1.og.rg.below (by first | exact Below.refl _ _ | (go_grown; done) | exact below_drewN _ 1))) ?_
              rintro e w38b ⟨v38b, rfl, ho38b, hb38b⟩
              have hB38b := bnext hHeld.1 hb38b
              obtain ⟨ab38, cb38, rfl⟩ := ho38b.shape
              try go_wp2_with fail
              refine hK.out _ _ ?_ (fun hHeld => ?_)
              · (try go_split_ands); refine ⟨?_, ?_, ?_⟩ <;> first | assumption | exact Below.refl _ _ | (go_grown; done) | exact cnext (by assumption) (by assumption) | exact bnext (by assumption) (by assumption) | exact cnext (show Below w37b.heap.size w37b _ by first | assumption | go_grown) t0 | exact cnext (show Below w37b.heap.size w37b _ by first | assumption | go_grown) t1 | go_keep
              clear hK K
              (try simp only [Act.put, List.setIfInBounds_toArray, List.set_cons_zero, List.set_cons_succ])
              refine wpAnyH_tk (i := 9) (v := ?_) (some 185) rfl rfl (by kernel_rfl) (by decide +kernel) (by decide +kernel) (fun _ _ _ h => h) (by kernel_rfl) ?_ hHeld ?_
              rotate_left
              · (intro w hSw; (try dsimp only at hSw); go_simp <;> with_reducible rfl)
              (try simp only [Act.put, List.setIfInBounds_toArray, List.set_cons_zero, List.set_cons_succ])
              refine wpAnyH_tk (i := 10) (v := ?_) (some 195) rfl rfl (by kernel_rfl) (by decide +kernel) (by decide +kernel) (fun _ _ _ h => h) (by kernel_rfl) ?_ hHeld ?_
              rotate_left
              · (intro w hSw; (try dsimp only at hSw); go_simp <;> with_reducible rfl)
              (try simp only [Act.put, List.setIfInBounds_toArray, List.set_cons_zero, List.set_cons_succ])
              refine wpAnyH_tk (i := 11) (v := ?_) (some 196) rfl rfl (by kernel_rfl) (by decide +kernel) (by decide +kernel) (fun _ _ _ h => h) (by kernel_rfl) ?_ hHeld ?_
              rotate_left
              · (intro w hSw; (try dsimp only at hSw); go_simp <;> with_reducible rfl)
              (try simp only [Act.put, List.setIfInBounds_toArray, List.set_cons_zero, List.set_cons_succ])
              refine wpAnyH_tk (i := 12) (v := ?_) (some 28) rfl rfl (by kernel_rfl) (by decide +kernel) (by decide +kernel) (fun _ _ _ h => h) (by kernel_rfl) ?_ hHeld ?_
              rotate_left
              · (intro w hSw; (try dsimp only at hSw); go_simp <;> with_reducible rfl)
              (try simp only [Act.put, List.setIfInBounds_toArray, List.set_cons_zero, List.set_cons_succ])
              refine wpAnyH_tk (i := 13) (v := ?_) (some 29) rfl rfl (by kernel_rfl) (by decide +kernel) (by decide +kernel) (fun _ _ _ h => h) (by kernel_rfl) ?_ hHeld ?_
              rotate_left
              · (intro w hSw; (try dsimp only at hSw); go_simp <;> with_reducible rfl)
              (try simp only [Act.put, List.setIfInBounds_toArray, List.set_cons_zero, List.set_cons_succ])
              refine wpAnyH_done (by kernel_rfl) ?_ _
              have hB39 := bnext hB38 hB38b
              go_wp2_with fail
              go_ret
              exact ⟨by simp, hB39⟩
            · skip
              go_wp2_with fail
              refine wp_region_held_drew (S := fun W' => Below w24.heap.size w24 W' ∧ (W'.cell? ⟨w5.heap.size, 0, none⟩ = some (.int .i64 P) ∧ W'.cell? ⟨w5.heap.size, 1, none⟩ = some (.slice (some ⟨bz, oz, none⟩) zs.length pt))) (by kernel_rfl) ?_ (fun hHeld => ?_)
              · (try go_split_ands); refine ⟨?_, ?_, ?_⟩ <;> first | assumption | exact Below.refl _ _ | (go_grown; done) | exact cnext (by assumption) (by assumption) | exact bnext (by assumption) (by assumption) | exact cnext (show Below w24.heap.size w24 _ by first | assumption | go_grown) t0 | exact cnext (show Below w24.heap.size w24 _ by first | assumption | go_grown) t1 | go_keep
              refine wpAnyH_tk (i := 0) (v := ?_) (some 174) rfl rfl (by kernel_rfl) (by decide +kernel) (by decide +kernel) (fun _ _ _ h => h) (by kernel_rfl) ?_ hHeld ?_
              rotate_left
              · (intro w hSw; (try dsimp only at hSw); go_simp <;> with_reducible rfl)
              (try simp only [Act.put, List.setIfInBounds_toArray, List.set_cons_zero, List.set_cons_succ])
              refine wpAnyH_tk (i := 2) (v := ?_) (some 176) rfl rfl (by kernel_rfl) (by decide +kernel) (by decide +kernel) (fun _ _ _ h => h) (by kernel_rfl) ?_ hHeld ?_
              rotate_left
              · (intro w hSw; (try dsimp only at hSw); go_simp <;> with_reducible rfl)
              (try simp only [Act.put, List.setIfInBounds_toArray, List.set_cons_zero, List.set_cons_succ])
              refine wpAnyH_tk (i := 3) (v := ?_) (some 177) rfl rfl (by kernel_rfl) (by decide +kernel) (by decide +kernel) (fun _ _ _ h => h) (by kernel_rfl) ?_ hHeld ?_
              rotate_left
              · (intro w hSw; (try dsimp only at hSw); go_simp <;> with_reducible rfl)
              (try simp only [Act.put, List.setIfInBounds_toArray, List.set_cons_zero, List.set_cons_succ])
              refine wpAnyH_tk (i := 5) (v := ?_) (some 179) rfl rfl (by kernel_rfl) (by decide +kernel) (by decide +kernel) (fun _ _ _ h => h) (by kernel_rfl) ?_ hHeld ?_
              rotate_left
              · (intro w hSw; (try dsimp only at hSw); go_simp <;> with_reducible rfl)
              (try simp only [Act.put, List.setIfInBounds_toArray, List.set_cons_zero, List.set_cons_succ])
              refine wpAnyH_tk (i := 6) (v := ?_) (some 180) rfl rfl (by kernel_rfl) (by decide +kernel) (by decide +kernel) (fun _ _ _ h => h) (by kernel_rfl) ?_ hHeld ?_
              rotate_left
              · (intro w hSw; (try dsimp only at hSw); go_simp <;> with_reducible rfl)
              (try simp only [Act.put, List.setIfInBounds_toArray, List.set_cons_zero, List.set_cons_succ])
              refine wpAnyH_tk (i := 7) (v := ?_) (some 181) rfl rfl (by kernel_rfl) (by decide +kernel) (by decide +kernel) (fun _ _ _ h => h) (by kernel_rfl) ?_ hHeld ?_
              rotate_left
              · (intro w hSw; (try dsimp only at hSw); go_simp <;> with_reducible rfl)
              (try simp only [Act.put, List.setIfInBounds_toArray, List.set_cons_zero, List.set_cons_succ])
              refine wpAnyH_ready (rs := [1]) (by kernel_rfl) (by simp) ?_
              refine AllReadyH.cons rfl (fun K hK => ?_) AllReadyH.nil
              go_simp
              refine hK.out _ _ ?_ (fun hHeld => ?_)
              · (try go_split_ands); refine ⟨?_, ?_, ?_⟩ <;> first | assumption | exact Below.refl _ _ | (go_grown; done) | exact cnext (by assumption) (by assumption) | exact bnext (by assumption) (by assumption) | exact cnext (show Below w24.heap.size w24 _ by first | assumption | go_grown) t0 | exact cnext (show Below w24.heap.size w24 _ by first | assumption | go_grown) t1 | go_keep
              clear hK K
              (try simp only [Act.put, List.setIfInBounds_toArray, List.set_cons_zero, List.set_cons_succ])
              refine wpAnyH_ready (rs := [4]) (by kernel_rfl) (by simp) ?_
              refine AllReadyH.cons rfl (fun K hK => ?_) AllReadyH.nil
              have hE : OwnB w24.heap.size ((w24.alloc (.cells #[] 4)).drew) (.slice (some ⟨w24.heap.size, 0, none⟩) 0 0) [] := ownB_empty w24.drew _ (Nat.le_refl _)
              have hBw : Below w24.heap.size w24 ((w24.alloc (.cells #[] 4)).drew) := by first | exact hHeld.1 | go_grown
              refine step_appB rfl (.tmp 175) (.tmp 177) rfl w24.heap.size w24.heap.size (Nat.le_refl _) (.slice (some ⟨w24.heap.size, 0, none⟩) 0 0) [] (by simp [Act.eval, Act.put]) hE hBw Zt (if p21 = 1 then ⟨bb, ob, none⟩ else ⟨bb, ob + 1, none⟩) (p21 - 1) (by by_cases hp : p21 = 1 <;> simp [Act.eval, Act.put, hp] <;> have h9 := HZn.out <;> omega) (fun j hj => by
                have h7 := cnext hBw (Hct.out j hj)
                have h8 := HZn.out
                rw [if_neg (by omega), Addr.add_lit]; exact h7) (by have := HZL.out; have := HZn.out; simp; omega) hBw.size ?_
              intro v37 w31 hown1 hB1 hg1
              rw [List.nil_append] at hown1
              obtain ⟨aq37, cq37, rfl⟩ := hown1.shape
              refine hK.out _ _ ?_ (fun hHeld => ?_)
              · (try go_split_ands); refine ⟨?_, ?_, ?_⟩ <;> first | assumption | exact Below.refl _ _ | (go_grown; done) | exact cnext (by assumption) (by assumption) | exact bnext (by assumption) (by assumption) | exact cnext (show Below w24.heap.size w24 _ by first | assumption | go_grown) t0 | exact cnext (show Below w24.heap.size w24 _ by first | assumption | go_grown) t1 | go_keep
              clear hK K
              (try simp only [Act.put, List.setIfInBounds_toArray, List.set_cons_zero, List.set_cons_succ])
              refine wpAnyH_ready (rs := [8]) (by kernel_rfl) (by simp) ?_
              refine AllReadyH.cons rfl (fun K hK => ?_) AllReadyH.nil
              go_simp
              with_reducible refine Calls.mono (implStT_any P _ zs _ Zt S ts.length _ (Hot.out.below hHeld.1).ri (hown1.og.rg.below (by first | exact Below.refl _ _ | (go_grown; done) | exact below_drewN _ 1))) ?_
              rintro e w37b ⟨v37b, rfl, ho37b, hb37b⟩
              have hB37b := bnext hHeld.1 hb37b
              obtain ⟨ab37, cb37, rfl⟩ := ho37b.shape
              try go_wp2_with fail
              refine hK.out _ _ ?_ (fun hHeld => ?_)
              · (try go_split_ands); refine ⟨?_, ?_, ?_⟩ <;> first | assumption | exact Below.refl _ _ | (go_grown; done) | exact cnext (by assumption) (by assumption) | exact bnext (by assumption) (by assumption) | exact cnext (show Below w24.heap.size w24 _ by first | assumption | go_grown) t0 | exact cnext (show Below w24.heap.size w24 _ by first | assumption | go_grown) t1 | go_keep
              clear hK K
              (try simp only [Act.put, List.setIfInBounds_toArray, List.set_cons_zero, List.set_cons_succ])
              refine wpAnyH_tk (i := 9) (v := ?_) (some 173) rfl rfl (by kernel_rfl) (by decide +kernel) (by decide +kernel) (fun _ _ _ h => h) (by kernel_rfl) ?_ hHeld ?_
              rotate_left
              · (intro w hSw; (try dsimp only at hSw); go_simp <;> with_reducible rfl)
              (try simp only [Act.put, List.setIfInBounds_toArray, List.set_cons_zero, List.set_cons_succ])
              refine wpAnyH_tk (i := 10) (v := ?_) (some 183) rfl rfl (by kernel_rfl) (by decide +kernel) (by decide +kernel) (fun _ _ _ h => h) (by kernel_rfl) ?_ hHeld ?_
              rotate_left
              · (intro w hSw; (try dsimp only at hSw); go_simp <;> with_reducible rfl)
              (try simp only [Act.put, List.setIfInBounds_toArray, List.set_cons_zero, List.set_cons_succ])
              refine wpAnyH_tk (i := 11) (v := ?_) (some 184) rfl rfl (by kernel_rfl) (by decide +kernel) (by decide +kernel) (fun _ _ _ h => h) (by kernel_rfl) ?_ hHeld ?_
              rotate_left
              · (intro w hSw; (try dsimp only at hSw); go_simp <;> with_reducible rfl)
              (try simp only [Act.put, List.setIfInBounds_toArray, List.set_cons_zero, List.set_cons_succ])
              refine wpAnyH_tk (i := 12) (v := ?_) (some 26) rfl rfl (by kernel_rfl) (by decide +kernel) (by decide +kernel) (fun _ _ _ h => h) (by kernel_rfl) ?_ hHeld ?_
              rotate_left
              · (intro w hSw; (try dsimp only at hSw); go_simp <;> with_reducible rfl)
              (try simp only [Act.put, List.setIfInBounds_toArray, List.set_cons_zero, List.set_cons_succ])
              refine wpAnyH_tk (i := 13) (v := ?_) (some 27) rfl rfl (by kernel_rfl) (by decide +kernel) (by decide +kernel) (fun _ _ _ h => h) (by kernel_rfl) ?_ hHeld ?_
              rotate_left
              · (intro w hSw; (try dsimp only at hSw); go_simp <;> with_reducible rfl)
              (try simp only [Act.put, List.setIfInBounds_toArray, List.set_cons_zero, List.set_cons_succ])
              refine wpAnyH_done (by kernel_rfl) ?_ _
              have Hot := Lib.hid (Hot.out.below hB37b)
              have Hct := Lib.hid (show ∀ j (hj : j < Zt.length), w37b.cell? ⟨bb, ob + 1 + j, none⟩ = some (.bool Zt[j]) from fun j hj => cnext hB37b (Hct.out j hj))
              have Ht := Lib.hid (blk_next hB37b Ht.out)
              have hB38 := bnext hB24 hB37b
              clear t0 t1 t2 t3 hHeld hown1 hB1 hg1 hE hBw
              obtain ⟨t0, t1, t2, t3⟩ := blk2 Ht.out
              go_wp2_with fail
              refine wp_region_held_drew (S := fun W' => Below w37b.heap.size w37b W' ∧ (W'.cell? ⟨w5.heap.size, 0, none⟩ = some (.int .i64 P) ∧ W'.cell? ⟨w5.heap.size, 1, none⟩ = some (.slice (some ⟨bz, oz, none⟩) zs.length pt))) (by kernel_rfl) ?_ (fun hHeld => ?_)
              · (try go_split_ands); refine ⟨?_, ?_, ?_⟩ <;> first | assumption | exact Below.refl _ _ | (go_grown; done) | exact cnext (by assumption) (by assumption) | exact bnext (by assumption) (by assumption) | exact cnext (show Below w37b.heap.size w37b _ by first | assumption | go_grown) t0 | exact cnext (show Below w37b.heap.size w37b _ by first | assumption | go_grown) t1 | go_keep
              refine wpAnyH_tk (i := 0) (v := ?_) (some 186) rfl rfl (by kernel_rfl) (by decide +kernel) (by decide +kernel) (fun _ _ _ h => h) (by kernel_rfl) ?_ hHeld ?_
              rotate_left
              · (intro w hSw; (try dsimp only at hSw); go_simp <;> with_reducible rfl)
              (try simp only [Act.put, List.setIfInBounds_toArray, List.set_cons_zero, List.set_cons_succ])
              refine wpAnyH_tk (i := 2) (v := ?_) (some 188) rfl rfl (by kernel_rfl) (by decide +kernel) (by decide +kernel) (fun _ _ _ h => h) (by kernel_rfl) ?_ hHeld ?_
              rotate_left
              · (intro w hSw; (try dsimp only at hSw); go_simp <;> with_reducible rfl)
              (try simp only [Act.put, List.setIfInBounds_toArray, List.set_cons_zero, List.set_cons_succ])
              refine wpAnyH_tk (i := 3) (v := ?_) (some 189) rfl rfl (by kernel_rfl) (by decide +kernel) (by decide +kernel) (fun _ _ _ h => h) (by kernel_rfl) ?_ hHeld ?_
              rotate_left
              · (intro w hSw; (try dsimp only at hSw); go_simp <;> with_reducible rfl)
              (try simp only [Act.put, List.setIfInBounds_toArray, List.set_cons_zero, List.set_cons_succ])
              refine wpAnyH_tk (i := 5) (v := ?_) (some 191) rfl rfl (by kernel_rfl) (by decide +kernel) (by decide +kernel) (fun _ _ _ h => h) (by kernel_rfl) ?_ hHeld ?_
              rotate_left
              · (intro w hSw; (try dsimp only at hSw); go_simp <;> with_reducible rfl)
              (try simp only [Act.put, List.setIfInBounds_toArray, List.set_cons_zero, List.set_cons_succ])
              refine wpAnyH_tk (i := 6) (v := ?_) (some 192) rfl rfl (by kernel_rfl) (by decide +kernel) (by decide +kernel) (fun _ _ _ h => h) (by kernel_rfl) ?_ hHeld ?_
              rotate_left
              · (intro w hSw; (try dsimp only at hSw); go_simp <;> with_reducible rfl)
              (try simp only [Act.put, List.setIfInBounds_toArray, List.set_cons_zero, List.set_cons_succ])
              refine wpAnyH_tk (i := 7) (v := ?_) (some 193) rfl rfl (by kernel_rfl) (by decide +kernel) (by decide +kernel) (fun _ _ _ h => h) (by kernel_rfl) ?_ hHeld ?_
              rotate_left
              · (intro w hSw; (try dsimp only at hSw); go_simp <;> with_reducible rfl)
              (try simp only [Act.put, List.setIfInBounds_toArray, List.set_cons_zero, List.set_cons_succ])
              refine wpAnyH_ready (rs := [1]) (by kernel_rfl) (by simp) ?_
              refine AllReadyH.cons rfl (fun K hK => ?_) AllReadyH.nil
              go_simp
              refine hK.out _ _ ?_ (fun hHeld => ?_)
              · (try go_split_ands); refine ⟨?_, ?_, ?_⟩ <;> first | assumption | exact Below.refl _ _ | (go_grown; done) | exact cnext (by assumption) (by assumption) | exact bnext (by assumption) (by assumption) | exact cnext (show Below w37b.heap.size w37b _ by first | assumption | go_grown) t0 | exact cnext (show Below w37b.heap.size w37b _ by first | assumption | go_grown) t1 | go_keep
              clear hK K
              (try simp only [Act.put, List.setIfInBounds_toArray, List.set_cons_zero, List.set_cons_succ])
              refine wpAnyH_ready (rs := [4]) (by kernel_rfl) (by simp) ?_
              refine AllReadyH.cons rfl (fun K hK => ?_) AllReadyH.nil
              have hE : OwnB w37b.heap.size ((w37b.alloc (.cells #[] 4)).drew) (.slice (some ⟨w37b.heap.size, 0, none⟩) 0 0) [] := ownB_empty w37b.drew _ (Nat.le_refl _)
              have hBw : Below w37b.heap.size w37b ((w37b.alloc (.cells #[] 4)).drew) := by first | exact hHeld.1 | go_grown
              refine step_appB rfl (.tmp 187) (.tmp 189) rfl w37b.heap.size w37b.heap.size (Nat.le_refl _) (.slice (some ⟨w37b.heap.size, 0, none⟩) 0 0) [] (by simp [Act.eval, Act.put]) hE hBw Zt (if p21 = 1 then ⟨bb, ob, none⟩ else ⟨bb, ob + 1, none⟩) (p21 - 1) (by by_cases hp : p21 = 1 <;> simp [Act.eval, Act.put, hp] <;> have h9 := HZn.out <;> omega) (fun j hj => by
                have h7 := cnext hBw (Hct.out j hj)
                have h8 := HZn.out
                rw [if_neg (by omega), Addr.add_lit]; exact h7) (by have := HZL.out; have := HZn.out; simp; omega) hBw.size ?_
              intro v38 w38 hown1 hB1 hg1
              rw [List.nil_append] at hown1
              obtain ⟨aq38, cq38, rfl⟩ := hown1.shape
              refine hK.out _ _ ?_ (fun hHeld => ?_)
              · (try go_split_ands); refine ⟨?_, ?_, ?_⟩ <;> first | assumption | exact Below.refl _ _ | (go_grown; done) | exact cnext (by assumption) (by assumption) | exact bnext (by assumption) (by assumption) | exact cnext (show Below w37b.heap.size w37b _ by first | assumption | go_grown) t0 | exact cnext (show Below w37b.heap.size w37b _ by first | assumption | go_grown) t1 | go_keep
              clear hK K
              (try simp only [Act.put, List.setIfInBounds_toArray, List.set_cons_zero, List.set_cons_succ])
              refine wpAnyH_ready (rs := [8]) (by kernel_rfl) (by simp) ?_
              refine AllReadyH.cons rfl (fun K hK => ?_) AllReadyH.nil
              go_simp
              with_reducible refine Calls.mono (specStT_any P _ zs _ Zt S ts.length _ (Hot.out.below hHeld.1).ri (hown1.og.rg.below (by first | exact Below.refl _ _ | (go_grown; done) | exact below_drewN _ 1))) ?_
              rintro e w38b ⟨v38b, rfl, ho38b, hb38b⟩
              have hB38b := bnext hHeld.1 hb38b
              obtain ⟨ab38, cb38, rfl⟩ := ho38b.shape
              try go_wp2_with fail
              refine hK.out _ _ ?_ (fun hHeld => ?_)
              · (try go_split_ands); refine ⟨?_, ?_, ?_⟩ <;> first | assumption | exact Below.refl _ _ | (go_grown; done) | exact cnext (by assumption) (by assumption) | exact bnext (by assumption) (by assumption) | exact cnext (show Below w37b.heap.size w37b _ by first | assumption | go_grown) t0 | exact cnext (show Below w37b.heap.size w37b _ by first | assumption | go_grown) t1 | go_keep
              clear hK K
              (try simp only [Act.put, List.setIfInBounds_toArray, List.set_cons_zero, List.set_cons_succ])
              refine wpAnyH_tk (i := 9) (v := ?_) (some 185) rfl rfl (by kernel_rfl) (by decide +kernel) (by decide +kernel) (fun _ _ _ h => h) (by kernel_rfl) ?_ hHeld ?_
              rotate_left
              · (intro w hSw; (try dsimp only at hSw); go_simp <;> with_reducible rfl)
              (try simp only [Act.put, List.setIfInBounds_toArray, List.set_cons_zero, List.set_cons_succ])
              refine wpAnyH_tk (i := 10) (v := ?_) (some 195) rfl rfl (by kernel_rfl) (by decide +kernel) (by decide +kernel) (fun _ _ _ h => h) (by kernel_rfl) ?_ hHeld ?_
              rotate_left
              · (intro w hSw; (try dsimp only at hSw); go_simp <;> with_reducible rfl)
              (try simp only [Act.put, List.setIfInBounds_toArray, List.set_cons_zero, List.set_cons_succ])
              refine wpAnyH_tk (i := 11) (v := ?_) (some 196) rfl rfl (by kernel_rfl) (by decide +kernel) (by decide +kernel) (fun _ _ _ h => h) (by kernel_rfl) ?_ hHeld ?_
              rotate_left
              · (intro w hSw; (try dsimp only at hSw); go_simp <;> with_reducible rfl)
              (try simp only [Act.put, List.setIfInBounds_toArray, List.set_cons_zero, List.set_cons_succ])
              refine wpAnyH_tk (i := 12) (v := ?_) (some 28) rfl rfl (by kernel_rfl) (by decide +kernel) (by decide +kernel) (fun _ _ _ h => h) (by kernel_rfl) ?_ hHeld ?_
              rotate_left
              · (intro w hSw; (try dsimp only at hSw); go_simp <;> with_reducible rfl)
              (try simp only [Act.put, List.setIfInBounds_toArray, List.set_cons_zero, List.set_cons_succ])
              refine wpAnyH_tk (i := 13) (v := ?_) (some 29) rfl rfl (by kernel_rfl) (by decide +kernel) (by decide +kernel) (fun _ _ _ h => h) (by kernel_rfl) ?_ hHeld ?_
              rotate_left
              · (intro w hSw; (try dsimp only at hSw); go_simp <;> with_reducible rfl)
              (try simp only [Act.put, List.setIfInBounds_toArray, List.set_cons_zero, List.set_cons_succ])
              refine wpAnyH_done (by kernel_rfl) ?_ _
              have hB39 := bnext hB38 hB38b
              go_wp2_with fail
              go_ret
              exact ⟨by simp, hB39⟩

set_option maxRecDepth 100000 in
theorem lifted (os : Os) (started : os.Started) (H : Type) (enc : TypeId × Value → H) :
    ReturnsInHanded {} Try.checked os 3 .any (Rows.fnStatedSpec.pre6 enc Try.prog Try.f3 Rows.fnStatedRow.domain false) (Rows.fnStatedSpec.post enc Try.prog Try.f3 false true false false) := by
  refine returnsInHanded_of_change (C := Try.checked) own started (by kernel_rfl) Try.func3
    (ChangeSpec.witness6 (enc := enc) (C := Try.checked) false ⟨#[], #[.slice none 0 0, .slice none 0 0], []⟩ 8 (by kernel_rfl) (by kernel_rfl) (by kernel_rfl) (by kernel_rfl)) ?_
  intro W base args ds gs before hval0 hW hcnd _
  have hval : ∀ (j : Nat) t v, Try.f3.params[j]? = some t → args[j]? = some v → Value.okWide Try.prog W .any base t v := hval0
  have hW' := hW
  obtain ⟨p, q, hA0, hV, rfl, hfz, hnd⟩ := hW
  have hA : DataW.TrodAll enc Try.prog W 0 (fun _ => true) true Try.f3.params.toList args.toList ds p := hA0
  rw [Try.params3] at hA hval
  obtain ⟨v0, vs0, d0, ds0, p0, q0, hargs, rfl, rfl, h0, r0⟩ := trodAll_cons hA
  obtain ⟨v1, vs1, d1, ds1, p1, q1, rfl, rfl, rfl, h1, r1⟩ := trodAll_cons r0
  obtain ⟨rfl, rfl, rfl⟩ := trodAll_nil r1
  obtain rfl : args = #[v0, v1] := by cases args; simp_all
  obtain ⟨rfl, rfl⟩ := trodVars_none hV
  have k0 := h0
  have lt0 : ∀ x ∈ p0, x.block < W.heap.size := by obtain ⟨m, hm⟩ := k0; exact DataW.trod_lt m _ _ _ hm
  obtain ⟨z0, w0⟩ := view_bytes (hval 0 22 v0 rfl rfl) h0
  have k1 := h1
  have lt1 : ∀ x ∈ p1, x.block < W.heap.size := by obtain ⟨m, hm⟩ := k1; exact DataW.trod_lt m _ _ _ hm
  obtain ⟨z1, w1⟩ := view_bytes (hval 1 22 v1 rfl rfl) h1
  clear hA0 hval0
  refine (walk v0 z0 v1 z1 W w0 w1).mono fun e W' ⟨he, bel⟩ => ?_
  subst he
  exact ⟨_, rfl, _, _, _, [], _, [], hW', trodAll_mk1 (shut_bool Try.underlying4 _), (trodAll_cons_mk (Below.trod laidOut (by kernel_rfl) (of_decide_eq_true (by kernel_rfl)) k0 bel lt0) (trodAll_cons_mk (Below.trod laidOut (by kernel_rfl) (of_decide_eq_true (by kernel_rfl)) k1 bel lt1) trodAll_mk0)), rfl, bel.frame _, fun h => by cases h⟩

theorem over : Rows.fnStatedRow.holds Try.pinned (OpenSpec.ofChange Rows.fnStatedSpec) :=
  OpenClaim.holds_of_wide 3 Try.f3 rfl rfl rfl rfl rfl rfl rfl ⟨rfl, rfl, rfl, rfl, rfl⟩ rfl rfl rfl rfl rfl (by kernel_rfl) Try.func3 (by kernel_rfl)
    (of_decide_eq_true (by kernel_rfl)) (by unfold Func.isWrapper; first | (rw [if_pos (by decide +kernel)]; kernel_rfl) | (rw [if_neg (by decide +kernel)]; exact ⟨rfl, rfl⟩))
    (fun os started H enc _ => lifted os started H enc)

theorem proved : Rows.FnStatedSaid := over
end Go.Proofs.Ytnhcoggjnbldiaa.fnStated
