/- UnmergeText: what the reference returns. No conditions but that the slices read. -/
import Derived.Test.YtgkgfpljblnpnaaUnm
import Derived.Deep.RegionLaw
namespace Go.Proofs.Ytgkgfpljblnpnaa
open Go.RowKit
set_option maxRecDepth 100000
set_option linter.unusedVariables false
set_option linter.unusedSimpArgs false

theorem umF_big {n : Int} {rs : List Int} {k : Nat} {cur : List Int} (h : ¬ cur.length ≤ 64) : ¬ (umF n rs k cur).length ≤ 64 := by
  have := (umF_len n rs k cur).1; omega
set_option maxHeartbeats 4000000 in
theorem specUnm_any (v : Value) (zs : List Int) (vr : Value) (rs : List Int) (n : Int) (w : World) (h : RI w v zs) (hr : RI w vr rs) :
    Calls Try.prog 23 #[v, vr, .int .i64 n] w fun e w' => ∃ v', e = .returned (.tuple #[v', .bool (umOk zs rs n)]) ∧ OI w.heap.size w' v' (umZ zs rs n) ∧ Below w.heap.size w w' := by
  have h0 := h
  have hr0 := hr
  have hlen := h.len
  have hrlen := hr.len
  obtain ⟨ao, cap, rfl⟩ := h.shape
  obtain ⟨aor, capr, rfl⟩ := hr.shape
  by_cases hs : sgn n = true
  · obtain ⟨hn1, hn2⟩ := sgn_bd' hs
    by_cases h2 : rs.length % 2 = 0
    · have d2 : (((rs.length : Int) % 2) != 0) = false := by simp; omega
      obtain ⟨c, hc⟩ : ∃ c, rs.length = 2 * c := ⟨rs.length / 2, by omega⟩
      have hcd : (rs.length : Int) / 2 = (c : Int) := by omega
      have hcn : rs.length / 2 = c := by omega
      have Hc := Lib.hid hc
      have Hcn := Lib.hid hcn
      by_cases h8 : c ≤ 8
      · have d8 : decide (8 < (c : Int)) = false := decide_eq_false (by omega)
        by_cases h64 : zs.length ≤ 64
        · have HZ := Lib.hid (show umZ zs rs n = if umOk zs rs n = true then umF n rs c zs else [] by rw [umZ, hcn])
          have HOK := Lib.hid (show umOk zs rs n = (allIn zs 0 (n + (c : Int) - 1) && (ruF n rs c 0 && decide ((umF n rs c zs).length ≤ 64))) by
            simp [umOk, umIn, hcn, hs, h2, h8, h64, Bool.and_assoc])
          clear h2 hc hcn
          go_enter Try.func23, Try.ntmps23
          go_wp2_with (go_at_call 54; refine (l05Letters_any _ _).mono ?_; rw [hs]; rintro e w' ⟨rfl, rfl⟩)
          go_loop [38] (fun iv => ∃ i : Nat, iv = .int .i64 i ∧ i ≤ zs.length ∧ allIn (zs.drop i) 0 (n + (c : Int) - 1) = allIn zs 0 (n + (c : Int) - 1)) (fun iv => zs.length - (intOf iv).toNat)
          case atStart => exact ⟨0, rfl, Nat.zero_le _, rfl⟩
          case round =>
            obtain ⟨i, rfl, hi, hq⟩ := hrel
            have Hq := Lib.hid hq
            clear hq
            by_cases hil : i < zs.length
            · obtain ⟨b, off, rfl, -, hcs⟩ := h0.2.cells (by omega)
              have hci := hcs i hil
              have Hd := Lib.hid (List.drop_eq_getElem_cons hil)
              clear hcs
              generalize zs[i] = z at *
              by_cases hz : inB z 0 (n + (c : Int) - 1) = true
              · go_wp2_with (go_at_call 55; refine (l00In_any _ _ _ _).mono ?_; rw [hz]; rintro e w' ⟨rfl, rfl⟩)
                go_round
                case rel => exact ⟨i + 1, by go_num, by omega, by rw [← Hq.out, Hd.out, allIn, hz]; rfl⟩
                case measure => simp [intOf] <;> omega
              · have hz : inB z 0 (n + (c : Int) - 1) = false := by simpa using hz
                have Hf := Lib.hid (show umOk zs rs n = false by rw [HOK.out, ← Hq.out, Hd.out, allIn, hz]; rfl)
                go_wp2_with (go_at_call 55; refine (l00In_any _ _ _ _).mono ?_; rw [hz]; rintro e w' ⟨rfl, rfl⟩)
                go_ret2
                exact ⟨_, ret2 rfl (vb Hf.out.symm), by rw [HZ.out, Hf.out]; exact OI.nil _ _, Below.refl _ _⟩
            · have hin : allIn zs 0 (n + (c : Int) - 1) = true := by rw [← Hq.out, List.drop_of_length_le (by omega)]; rfl
              have hinz : In0 (n + c) zs := fun z hz => by have := (allIn_iff _ _ _).1 hin z hz; omega
              have Hinz := Lib.hid hinz
              have HOK2 := Lib.hid (show umOk zs rs n = (ruF n rs c 0 && decide ((umF n rs c zs).length ≤ 64)) by rw [HOK.out, hin]; rfl)
              clear hin hinz
              go_wp2_with fail
              go_loop [54] (fun iv => ∃ i : Nat, iv = .int .i64 i ∧ i ≤ rs.length ∧ ruH n rs (rs.length - i) i = ruF n rs c 0) (fun iv => rs.length - (intOf iv).toNat)
              case atStart => exact ⟨0, rfl, Nat.zero_le _, by have := ruH_eq n rs c 0; rw [Nat.mul_zero] at this; rw [Hc.out, Nat.sub_zero]; exact this⟩
              case round =>
                obtain ⟨i2, rfl, hi2, hru⟩ := hrel
                by_cases hic : i2 < rs.length
                · obtain ⟨b, off, rfl, -, hcs⟩ := hr0.2.cells (by omega)
                  have hci := hcs i2 hic
                  rw [← gi_eq hic] at hci
                  rw [show rs.length - i2 = (rs.length - (i2 + 1)) + 1 by omega, ruH] at hru
                  have hi2b : i2 ≤ 16 := by have := Hc.out; omega
                  have q : (i2 : Int) / 2 = ((i2 / 2 : Nat) : Int) := by omega
                  have hi3 : i2 / 2 ≤ 8 := by omega
                  generalize i2 / 2 = h at *
                  have Hru := Lib.hid hru
                  clear hcs hru
                  generalize gi rs i2 = z at *
                  by_cases hz : inB z 0 (n + (h : Int) - 1) = true
                  · go_wp2_with (go_at_call 55; refine (l00In_any _ _ _ _).mono ?_; rw [hz]; rintro e w' ⟨rfl, rfl⟩)
                    go_round
                    case rel => exact ⟨i2 + 1, by go_num, by omega, by have := Hru.out; rw [hz] at this; exact this⟩
                    case measure => simp [intOf] <;> omega
                  · have hz : inB z 0 (n + (h : Int) - 1) = false := by simpa using hz
                    have Hf := Lib.hid (show umOk zs rs n = false by rw [HOK2.out, ← Hru.out, hz]; rfl)
                    go_wp2_with (go_at_call 55; refine (l00In_any _ _ _ _).mono ?_; rw [hz]; rintro e w' ⟨rfl, rfl⟩)
                    go_ret2
                    exact ⟨_, ret2 rfl (vb Hf.out.symm), by rw [HZ.out, Hf.out]; exact OI.nil _ _, Below.refl _ _⟩
                · have hrt : ruF n rs c 0 = true := by rw [← hru, show rs.length - i2 = 0 by omega]; rfl
                  have Hrt := Lib.hid hrt
                  clear hru hrt
                  go_wp2_with (at_builtin; go_must (refine app_ri rfl _ _ rfl w.heap.size w.heap.size (Nat.le_refl _) (.slice (some ⟨w.heap.size, 0, none⟩) 0 0) [] rfl (own_empty w _ (Nat.le_refl _)) (w0 := w) (by go_grown) (.slice ao zs.length cap) zs rfl (h0.2.below ((Below.refl _ _).alloc (Nat.le_refl _) _)) (by simp; omega) (by simp) ?_))
                  intro v1 w1 hown1 hb1 hg1
                  have ho1 : OI w.heap.size w1 v1 zs := hown1.oi h0.1
                  clear hown1 hg1
                  obtain ⟨ao5, cap5, rfl⟩ := ho1.shape
                  go_wp2
                  go_loopw [11, 12] (fun ov iv wr => ∃ (k : Nat) (cur : List Int), iv = .int .i64 ((k : Int) - 1) ∧ k ≤ c ∧ umF n rs k cur = umF n rs c zs ∧ cur.length ≤ 64 ∧ OI w.heap.size wr ov cur ∧ Below w.heap.size w wr) (fun _ iv _ => (intOf iv + 1).toNat)
                  case atStart => exact ⟨c, zs, rfl, Nat.le_refl _, rfl, h64, ho1, hb1⟩
                  case round =>
                    clear ho1 hb1
                    obtain ⟨k, cur, rfl, hk, hq, hcl2, ho, hB⟩ := hrel
                    obtain ⟨ao1, cap1, rfl⟩ := ho.shape
                    have Hq := Lib.hid hq
                    clear hq
                    cases k with
                    | zero =>
                      have hfin : umF n rs c zs = cur := by rw [← Hq.out]; rfl
                      have hgood : umOk zs rs n = true := by rw [HOK2.out, Hrt.out, hfin]; simp [hcl2]
                      have Hfin := Lib.hid hfin
                      have Hg := Lib.hid hgood
                      clear hfin hgood
                      go_wp2
                      go_ret2
                      exact ⟨_, ret2 rfl (vb Hg.out.symm), by rw [HZ.out, if_pos Hg.out, Hfin.out]; exact ho, hB⟩
                    | succ k =>
                      rw [show (((k + 1 : Nat) : Int) - 1) = (k : Int) by omega]
                      have hr1 := ruF_at Hrt.out k (by omega) (by omega)
                      have hrr := hr0.below hB
                      obtain ⟨b, off, rfl, -, hcs⟩ := hrr.2.cells (by have := Hc.out; omega)
                      have hk1 : 2 * k + 1 < rs.length := by have := Hc.out; omega
                      have ca := hcs (2 * k) (by omega)
                      have cb := hcs (2 * k + 1) hk1
                      rw [← gi_eq (show 2 * k < rs.length by omega)] at ca
                      rw [← gi_eq hk1] at cb
                      have Ca := Lib.hid ca
                      have Cb := Lib.hid cb
                      have hab : I64 (gi rs (2 * k)) ∧ I64 (gi rs (2 * k + 1)) := ⟨gi_i64 hr0.1 _, gi_i64 hr0.1 _⟩
                      have Hab := Lib.hid hab
                      obtain ⟨wo, rfl⟩ : ∃ wo : World, wo = wr := ⟨_, rfl⟩
                      have hl1 := exp1_len (n + k) (gi rs (2 * k)) (gi rs (2 * k + 1)) cur
                      have Hl1 := Lib.hid hl1
                      have hstep : umF n rs k (exp1 (n + k) (gi rs (2 * k)) (gi rs (2 * k + 1)) cur) = umF n rs c zs := by rw [← Hq.out, umF]
                      have Hstep := Lib.hid hstep
                      clear hr1 hrr hl1 hcs ca cb hab hstep
                      generalize gi rs (2 * k) = xa at *
                      generalize gi rs (2 * k + 1) = xb at *
                      go_wp2_with fail
                      go_loopw [13, 81] (fun nv jv wr => ∃ j : Nat, jv = .int .i64 j ∧ j ≤ cur.length ∧ OwnI wo.heap.size wr nv (exp1 (n + k) xa xb (cur.take j)) ∧ Below wo.heap.size wo wr) (fun _ jv _ => cur.length - (intOf jv).toNat)
                      case atStart => exact ⟨0, rfl, Nat.zero_le _, own_empty wo _ (Nat.le_refl _), by go_grown⟩
                      case round =>
                        obtain ⟨j, rfl, hj, hown, hB2⟩ := hrel
                        obtain ⟨ao3, cap3, rfl⟩ := hown.shape
                        have ho2 := ho.below hB2
                        by_cases hjl : j < cur.length
                        · obtain ⟨b1, off1, rfl, -, hcs⟩ := ho2.ri.2.cells (by omega)
                          have hcj := hcs j hjl
                          have hst := exp1_snoc (n + k) xa xb (cur.take j) cur[j]
                          rw [← List.take_succ_eq_append_getElem hjl] at hst
                          have hlj := (exp1_len (n + k) xa xb (cur.take j)).2
                          rw [List.length_take] at hlj
                          by_cases hz : cur[j] = n + (k : Int)
                          · rw [if_pos hz] at hst
                            have Hst := Lib.hid hst
                            clear hst hcs
                            have hzb : (cur[j] == n + (k : Int)) = true := by simpa using hz
                            generalize cur[j] = z at *
                            clear hz
                            have ca := cnext hB2 Ca.out
                            have cb := cnext hB2 Cb.out
                            have q1 : (0 : Int) ≤ 2 * (k : Int) := by omega
                            have q2 : 2 * (k : Int) < rs.length := by omega
                            have q3 : (0 : Int) ≤ 2 * (k : Int) + 1 := by omega
                            have q4 : 2 * (k : Int) + 1 < rs.length := by omega
                            have q5 : (2 * (k : Int)).toNat = 2 * k := by omega
                            have q6 : (2 * (k : Int) + 1).toNat = 2 * k + 1 := by omega
                            have q7 : IntKind.i64.wrap (2 * (k : Int)) = 2 * k := IntWalk.i64_in _ (by omega)
                            have q8 : IntKind.i64.wrap (2 * (k : Int) + 1) = 2 * k + 1 := IntWalk.i64_in _ (by omega)
                            go_wp2_with fail
                            go_region_law ((refine step_app rfl (.tmp 92) (.tmp 104) rfl wo.heap.size wo.heap.size (Nat.le_refl _) (.slice ao3 (exp1 (n + k) xa xb (cur.take j)).length cap3) (exp1 (n + k) xa xb (cur.take j)) (by simp [Act.eval, Act.put]) (show OwnI _ ((wr.alloc (.cells #[.int .i64 xa, .int .i64 xb] 2)).drew) _ _ from hown.alloc _) (show Below _ wo ((wr.alloc (.cells #[.int .i64 xa, .int .i64 xb] 2)).drew) from (hB2.alloc hB2.size _).drew) [xa, xb] ⟨wr.heap.size, 0, none⟩ 2 (by simp [Act.eval, Act.put]) (by intro q hq; match q, hq with | 0, _ => simp [Addr.add, go_sem] | 1, _ => simp [Addr.add, go_sem]) (by simp; omega) (by have := hB2.size; simp; omega) ?_; intro v' w' hown' hB' hg'))
                            all_goals
                              rw [← Hst.out] at hown'
                              clear hg' hown hB2 ho2
                              obtain ⟨ao4, cap4, rfl⟩ := hown'.shape
                              clear q1 q2 q3 q4 q5 q6 q7 q8
                              go_wp2
                              go_roundw
                              case rel => exact ⟨j + 1, by go_num, by omega, hown', hB'⟩
                              case measure => simp [intOf] <;> omega
                          · rw [if_neg hz] at hst
                            have Hst := Lib.hid hst
                            clear hst hcs
                            have hzb : (cur[j] == n + (k : Int)) = false := by simpa using hz
                            generalize cur[j] = z at *
                            clear hz
                            go_wp2_with (at_builtin; go_must (refine app_ints rfl _ _ rfl wo.heap.size wo.heap.size (Nat.le_refl _) (.slice ao3 (exp1 (n + k) xa xb (cur.take j)).length cap3) (exp1 (n + k) xa xb (cur.take j)) rfl hown hB2 _ _ [z] rfl rfl (by simp; omega) hB2.size ?_))
                            intro v' w' hown' hB' hg'
                            rw [← Hst.out] at hown'
                            clear hg' hown hB2 ho2
                            obtain ⟨ao4, cap4, rfl⟩ := hown'.shape
                            go_wp2
                            go_roundw
                            case rel => exact ⟨j + 1, by go_num, by omega, hown', hB'⟩
                            case measure => simp [intOf] <;> omega
                        · have htake := Lib.hid (show cur.take j = cur from List.take_of_length_le (by omega))
                          have hnx := hown
                          rw [htake.out] at hnx
                          have hoi := hnx.oi (exp1_i64 ho.1 Hab.out.1 Hab.out.2)
                          have Hoi := Lib.hid hoi
                          rw [htake.out]
                          clear hoi hnx hown
                          by_cases hbig : (exp1 (n + k) xa xb cur).length ≤ 64
                          · go_wp2
                            go_roundw
                            case rel => exact ⟨k, _, by go_num, by omega, Hstep.out, hbig, Hoi.out.mono hB.size, bnext hB hB2⟩
                            case measure => simp [intOf] <;> omega
                          · have Hf := Lib.hid (show umOk zs rs n = false by
                              have := umF_big (n := n) (rs := rs) (k := k) hbig
                              rw [Hstep.out] at this
                              rw [HOK2.out, decide_eq_false this]; simp)
                            go_wp2
                            go_ret2
                            exact ⟨_, ret2 rfl (vb Hf.out.symm), by rw [HZ.out, Hf.out]; exact OI.nil _ _, bnext hB hB2⟩
        · have HOK := Lib.hid (show umOk zs rs n = false by simp [umOk, umIn, h64])
          have HZ := Lib.hid (show umZ zs rs n = [] by simp [umZ, HOK.out])
          rw [HZ.out, HOK.out]
          clear h2 hc hcn
          go_enter Try.func23, Try.ntmps23
          go_wp2_with (go_at_call 54; refine (l05Letters_any _ _).mono ?_; rw [hs]; rintro e w' ⟨rfl, rfl⟩)
          go_ret2
          exact ⟨_, rfl, OI.nil _ _, Below.refl _ _⟩
      · have d8 : decide (8 < (c : Int)) = true := decide_eq_true (by omega)
        have HOK := Lib.hid (show umOk zs rs n = false by simp [umOk, umIn, hcn, h8])
        have HZ := Lib.hid (show umZ zs rs n = [] by simp [umZ, HOK.out])
        rw [HZ.out, HOK.out]
        clear h2 hc hcn
        go_enter Try.func23, Try.ntmps23
        go_wp2_with (go_at_call 54; refine (l05Letters_any _ _).mono ?_; rw [hs]; rintro e w' ⟨rfl, rfl⟩)
        go_ret2
        exact ⟨_, rfl, OI.nil _ _, Below.refl _ _⟩
    · have d2 : (((rs.length : Int) % 2) != 0) = true := by simp; omega
      have HOK := Lib.hid (show umOk zs rs n = false by simp [umOk, umIn, h2])
      have HZ := Lib.hid (show umZ zs rs n = [] by simp [umZ, HOK.out])
      rw [HZ.out, HOK.out]
      clear h2
      go_enter Try.func23, Try.ntmps23
      go_wp2_with (go_at_call 54; refine (l05Letters_any _ _).mono ?_; rw [hs]; rintro e w' ⟨rfl, rfl⟩)
      go_ret2
      exact ⟨_, rfl, OI.nil _ _, Below.refl _ _⟩
  · have hs : sgn n = false := by simpa using hs
    have HOK := Lib.hid (show umOk zs rs n = false by simp [umOk, umIn, hs])
    have HZ := Lib.hid (show umZ zs rs n = [] by simp [umZ, HOK.out])
    rw [HZ.out, HOK.out]
    go_enter Try.func23, Try.ntmps23
    go_wp2_with (go_at_call 54; refine (l05Letters_any _ _).mono ?_; rw [hs]; rintro e w' ⟨rfl, rfl⟩)
    go_ret2
    exact ⟨_, rfl, OI.nil _ _, Below.refl _ _⟩
end Go.Proofs.Ytgkgfpljblnpnaa
