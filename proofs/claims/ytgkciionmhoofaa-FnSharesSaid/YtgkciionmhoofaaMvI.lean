/- MendValues, in the program. No conditions but that the slice reads. -/
import Derived.Test.YtgkciionmhoofaaMvS
import Derived.Test.YtgkciionmhoofaaVal
namespace Go.Proofs.Ytgkciionmhoofaa
open Go.RowKit
set_option maxRecDepth 100000
set_option linter.unusedVariables false
set_option linter.unusedSimpArgs false

set_option maxHeartbeats 400000 in
theorem onesCnt_any (x : Nat) (hx : x < 65536) (w : World) :
    Calls Try.prog 26 #[.int .u64 x] w fun e w' => e = .returned (.int .i64 (wt x)) ∧ w = w' := by
  have H := Lib.hid (onesCount_any x hx w)
  generalize wt x = n at *
  go_enter Try.func26, Try.ntmps26
  go_wp2_with fail
  refine H.out.mono ?_
  rintro e w' ⟨rfl, rfl⟩
  go_wp2
  go_ret
  exact ⟨rfl, rfl⟩
set_option maxHeartbeats 8000000 in
theorem implMv_any (p k : Int) (v : Value) (vs : List Int) (w : World) (h : RI w v vs) :
    Calls Try.prog 12 #[.int .i64 p, .int .i64 k, v] w fun e w' => ∃ v', e = .returned (.tuple #[v', .int .i64 (mvM p k vs), .bool (mvOk p k vs)]) ∧ OI w.heap.size w' v' (mvZ p k vs) ∧ Below w.heap.size w w' := by
  have hlen := h.len
  obtain ⟨ao, cap, rfl⟩ := h.shape
  have G := Lib.hid h
  by_cases hn : nums p vs 1 8 = true
  · obtain ⟨hpr, hp1, hp2, hl1, hl8', hz⟩ := nums_parts hn
    have hl8 : vs.length ≤ 8 := by omega
    by_cases hk : inB k 1 3 = true
    · by_cases hlp : (vs.length : Int) < p
      · have d1 : decide (p ≤ (vs.length : Int)) = false := decide_eq_false (by omega)
        by_cases hlk : k ≤ (vs.length : Int)
        · have d2 : decide ((vs.length : Int) < k) = false := decide_eq_false (by omega)
          have H0 := Lib.hid (show mvOk0 p k vs = true by simp [mvOk0, hn, hk, hlp, hlk])
          have hkk := inB_eq hk
          simp only [if_true] at hkk
          obtain ⟨K, rfl⟩ := Int.eq_ofNat_of_zero_le (show 0 ≤ k by omega)
          have d2' : decide (vs.length < K) = false := decide_eq_false (by omega)
          have hK1 : 1 ≤ K := by omega
          have Hz := Lib.hid hz
          obtain ⟨L, hL⟩ : ∃ L, 2 ^ vs.length = L := ⟨_, rfl⟩
          have hLi : (2 : Int) ^ vs.length = (L : Int) := by rw [← hL]; simp
          have hL256 : L ≤ 256 := by rw [← hL]; exact Nat.le_trans (Nat.pow_le_pow_right (by decide) hl8) (by decide)
          have HL := Lib.hid hL
          clear hz hL
          go_enter Try.func12, Try.ntmps12
          go_wp2_with fail
          refine (areNumbers_any p _ vs _ _ _ h).mono ?_
          rw [hn]
          rintro e w1 ⟨rfl, hb1⟩
          go_wp2_with fail
          refine (within_any _ _ _ _).mono ?_
          rw [hk]
          rintro e w2 ⟨rfl, rfl⟩
          clear h hn
          go_wp2_with fail
          go_loopw [10, 11, 12, 45] (fun bv lv sv iv wr => ∃ (set most : Nat) (s : Mv), iv = .int .i64 set ∧ set ≤ L ∧ mvF p K vs vs.length set = s ∧ Mst vs.length s most ∧ OI w.heap.size wr bv s.best ∧ s.best.length ≤ 8 ∧ lv = .int .i64 most ∧ most ≤ vs.length ∧ sv = .bool s.sev ∧ Below w.heap.size w wr) (fun _ _ _ iv _ => L - (intOf iv).toNat)
          case atStart => exact ⟨0, 0, mv0 vs.length, rfl, Nat.zero_le _, rfl, .inl ⟨rfl, rfl⟩, OI.nil _ _, Nat.zero_le _, rfl, Nat.zero_le _, rfl, hb1⟩
          case round =>
            obtain ⟨set, most, s, rfl, hsl, hs, hmst, hbest, hbl, rfl, hle, rfl, hB⟩ := hrel
            have Hs := Lib.hid hs
            have Hbest := Lib.hid hbest
            have HB := Lib.hid hB
            have hB1s := hB.size
            obtain ⟨aob, capb, rfl⟩ := hbest.shape
            obtain ⟨lst, hlst⟩ : ∃ lst, s.least = lst := ⟨_, rfl⟩
            obtain ⟨sev, hsev⟩ : ∃ sev, s.sev = sev := ⟨_, rfl⟩
            obtain ⟨bst, hbst⟩ : ∃ bst, s.best = bst := ⟨_, rfl⟩
            rw [hsev, hbst]
            rw [hbst] at hbl
            have Hbest := Lib.hid (show OI w.heap.size wr (.slice aob bst.length capb) bst by have h := Hbest.out; rw [hbst] at h; exact h)
            have hse : s = ⟨bst, lst, sev⟩ := by rw [← hbst, ← hlst, ← hsev]
            rw [hse] at hmst
            have Hse := Lib.hid hse
            have Hmst := Lib.hid hmst
            clear hs hbest hB hlst hsev hbst hse hmst
            by_cases hlt : set < L
            · have hs65 : set < 65536 := by omega
              have hsI : (set : Int) < (L : Int) := by omega
              have hws : IntKind.u64.wrap (set : Int) = (set : Int) := by rw [IntKind.wrap_u64]; omega
              have Hsn := Lib.hid (show mvF p K vs vs.length (set + 1) = mvStep p K vs vs.length ⟨bst, lst, sev⟩ set by rw [mvF_snoc, Hs.out, Hse.out])
              have hsl2 : set < L := hlt
              have Hdb := Lib.hid (show ∀ i, (bits .and .i64 ((set : Int) / 2 ^ i) 1 == 1) = hasD set i from fun i => hasD_i64 set i hs65)
              by_cases hw : wt set = K
              · have hwb : (((wt set : Nat) : Int) != (K : Int)) = false := by simp [hw]
                have HS := Lib.hid (mst_step hpr Hz.out hlp (set := set) (by rw [HL.out]; exact hlt) hK1 hw Hmst.out)
                obtain ⟨w2, rfl⟩ : ∃ w2 : World, w2 = wr := ⟨_, rfl⟩
                go_wp2_with (go_at_call 26; refine (onesCnt_any set hs65 _).mono ?_; rintro e w' ⟨rfl, rfl⟩)
                go_loopw [14, 15, 57] (fun pv vv iv wq => ∃ (i : Nat), iv = .int .i64 i ∧ i ≤ vs.length ∧ Two w2.heap.size wq pv vv (pkP set i) (pkV vs set i) ∧ Below w2.heap.size w2 wq) (fun _ _ iv _ => vs.length - (intOf iv).toNat)
                case atStart => exact ⟨0, rfl, Nat.zero_le _, two_new w2 _ (Nat.le_refl _), by go_grown⟩
                case round =>
                  obtain ⟨i, rfl, hi, htw, hB2⟩ := hrel
                  by_cases hil : i < vs.length
                  · obtain ⟨b, off, e0, -, hc⟩ := G.out.2.cells (by omega)
                    obtain rfl := e0
                    have hci0 := cnext HB.out (hc i hil)
                    have hci := cnext hB2 hci0
                    have Hg := Lib.hid (gI_eq hil)
                    have Hs1 := Lib.hid (pkP_snoc set i)
                    have Hs2 := Lib.hid (pkV_snoc vs set i)
                    have hl1 : (pkP set i).length ≤ 8 := by rw [pkP_len]; have := pkN_len set i; omega
                    have hl2 : (pkV vs set i).length ≤ 8 := by rw [pkV_len]; have := pkN_len set i; omega
                    generalize vs[i] = z at *
                    have hsz := hB2.size
                    have hiI : (i : Int) < (vs.length : Int) := by omega
                    clear hc
                    obtain ⟨d, hd⟩ : ∃ d, hasD set i = d := ⟨_, rfl⟩
                    have Hd := Lib.hid hd
                    have hdb := Hdb.out i
                    rw [hd] at hdb
                    cases d with
                    | true =>
                      obtain ⟨ap1, cp1, rfl⟩ := htw.a.shape
                      obtain ⟨ap2, cp2, rfl⟩ := htw.b.shape
                      have Hs1' := Lib.hid (Hs1.out.trans (if_pos Hd.out))
                      have Hs2' := Lib.hid (Hs2.out.trans (if_pos Hd.out))
                      rw [Hg.out] at Hs2'
                      clear Hs1 Hs2
                      generalize pkP set i = l1 at *
                      generalize pkV vs set i = l2 at *
                      have Htw := Lib.hid htw
                      have hown1 := htw.a
                      clear htw
                      go_wp2_with ((at_builtin; go_must (refine app_int_at rfl _ _ rfl w2.heap.size w2.heap.size (Nat.le_refl _) (.slice ap1 l1.length cp1) l1 rfl hown1 hB2 _ _ [(i : Int)] rfl rfl (by simp; omega) hsz ?_)))
                      intro v5 w5 hown5 hB5 hg5 hat5
                      rw [← Hs1'.out] at hown5
                      have htw5 := Htw.out.first hown5 hg5 hat5
                      have hci5 := cnext hB5 hci0
                      have hsz5 := hB5.size
                      obtain ⟨ap5, cp5, rfl⟩ := hown5.shape
                      have Htw5 := Lib.hid htw5
                      have hown6 := htw5.b
                      clear hown1 hown5 hg5 hat5 htw5 Htw hci hB2 hsz
                      go_wp2_with (at_builtin; go_must (refine app_int_at rfl _ _ rfl w2.heap.size w2.heap.size (Nat.le_refl _) (.slice ap2 l2.length cp2) l2 rfl hown6 hB5 _ _ [z] rfl rfl (by simp; omega) hsz5 ?_))
                      intro v6 w6 hown7 hB6 hg6 hat6
                      rw [← Hs2'.out] at hown7
                      have htw6 := Htw5.out.second hown7 hg6 hat6
                      have Htw6 := Lib.hid htw6
                      obtain ⟨ap6, cp6, rfl⟩ := hown7.shape
                      clear hown6 hown7 hg6 hat6 htw6 Htw5 hci5
                      go_wp2
                      go_roundw
                      case rel => exact ⟨i + 1, by go_num, by omega, Htw6.out, hB6⟩
                      case measure => simp [intOf] <;> omega
                    | false =>
                      have Hs1' := Lib.hid (Hs1.out.trans (if_neg (by rw [Hd.out]; decide)))
                      have Hs2' := Lib.hid (Hs2.out.trans (if_neg (by rw [Hd.out]; decide)))
                      have htw2 := htw
                      rw [← Hs1'.out, ← Hs2'.out] at htw2
                      have Htw2 := Lib.hid htw2
                      clear htw htw2 Hs1 Hs2 Hs1' Hs2'
                      go_wp2_with fail
                      go_roundw
                      case rel => exact ⟨i + 1, by go_num, by omega, Htw2.out, hB2⟩
                      case measure => simp [intOf] <;> omega
                  · have hie : i = vs.length := by omega
                    subst hie
                    obtain ⟨ap1, cp1, rfl⟩ := htw.a.shape
                    obtain ⟨ap2, cp2, rfl⟩ := htw.b.shape
                    have hn1 : 1 ≤ (pkN set vs.length).length := by
                      obtain ⟨j, hj, hdj⟩ := digit_ex (set := set) (n := vs.length) (fun e => by rw [e, wt_zero] at hw; omega) (by rw [HL.out]; exact hlt)
                      exact List.length_pos_of_mem (show j ∈ pkN set vs.length by unfold pkN; rw [List.mem_filter, List.mem_range]; exact ⟨hj, hdj⟩)
                    have hn8 := pkN_len set vs.length
                    have hPb := pkP_bd (set := set) (i := vs.length) (p := p) (by omega)
                    have hVb := pkV_bd (vs := vs) (set := set) (i := vs.length) (show 0 < p by omega) Hz.out
                    have hT := termsThrough_any p hpr _ _ (pkP set vs.length) (pkV vs set vs.length) (by rw [pkP_len, pkV_len]) (by rw [pkP_len]; exact hn1) (by rw [pkP_len]; omega) hPb hVb (pkP_dst set vs.length) _ (htw.a.oi (bd_i64 hp2 hPb)).ri (htw.b.oi (bd_i64 hp2 hVb)).ri
                    have HT := Lib.hid hT
                    have hB3 := bnext HB.out hB2
                    have Hbest3 := Lib.hid (Hbest.out.below hB2)
                    have HtB := Lib.hid (trm_bd (show 0 < p by omega) (pkP set vs.length) (pkV vs set vs.length))
                    have HtL := Lib.hid (trs_len p vs vs.length set)
                    clear hT hn1 hn8 hPb hVb htw hB2
                    go_wp2_with fail
                    refine HT.out.mono ?_
                    rintro e w4 ⟨vt, rfl, hot, hb4⟩
                    have hB4 := bnext hB3 hb4
                    have Hbest4 := Lib.hid (Hbest3.out.below hb4)
                    have htri := hot.ri
                    have hotb : OI w.heap.size w4 vt (trm p (pkP set vs.length) (pkV vs set vs.length)) := hot.mono hB3.size
                    have Hotb := Lib.hid hotb
                    clear hB3 Hbest3 HT hot hotb hb4
                    change RI w4 vt (trs p vs vs.length set) at htri
                    have Htr := Lib.hid (show OI w.heap.size w4 vt (trs p vs vs.length set) from Hotb.out)
                    clear Hotb
                    have HtB2 := Lib.hid (show ∀ z ∈ trs p vs vs.length set, 0 ≤ z ∧ z < p from HtB.out)
                    clear HtB
                    have HtL2 := Lib.hid (show (trs p vs vs.length set).length ≤ 8 by have := HtL.out; omega)
                    clear HtL
                    have Hhs := Lib.hid (show ∀ x, hit p (trs p vs vs.length set) vs (x + 1) = hit p (trs p vs vs.length set) vs x + if valF p (x : Int) (trs p vs vs.length set) == gI vs x then 1 else 0 from fun x => hit_snoc _ _ _ x)
                    have Hhl := Lib.hid (show ∀ x, hit p (trs p vs vs.length set) vs x ≤ x from fun x => by have := mis_hit p (trs p vs vs.length set) vs x; omega)
                    have Hh0 := Lib.hid (show hit p (trs p vs vs.length set) vs 0 = 0 from rfl)
                    have Htri := Lib.hid htri
                    clear htri
                    generalize trs p vs vs.length set = ts at *
                    obtain ⟨aot, capt, rfl⟩ := Htri.out.shape
                    go_wp2_with fail
                    go_loopw [19, 82] (fun cv xv wr => ∃ (x : Nat), xv = .int .i64 x ∧ x ≤ vs.length ∧ cv = .int .i64 ((hit p ts vs x : Nat) : Int) ∧ Below w4.heap.size w4 wr) (fun _ xv _ => vs.length - (intOf xv).toNat)
                    case atStart => exact ⟨0, rfl, Nat.zero_le _, by rw [Hh0.out]; rfl, Below.refl _ _⟩
                    case round =>
                      obtain ⟨x, rfl, hx, rfl, hBx⟩ := hrel
                      by_cases hxl : x < vs.length
                      · obtain ⟨b, off, e0, -, hc⟩ := G.out.2.cells (by omega)
                        obtain rfl := e0
                        have hcx := cnext hBx (cnext hB4 (hc x hxl))
                        have Hg := Lib.hid (gI_eq hxl)
                        have Hs1 := Lib.hid (Hhs.out x)
                        have hcn := Hhl.out x
                        have hV := valueAt_any p x hp1 hp2 (by omega) (by omega) _ ts HtB2.out wr (Htri.out.below hBx)
                        have HV := Lib.hid hV
                        have hxI : (x : Int) < (vs.length : Int) := by omega
                        clear hV hc
                        generalize vs[x] = z at *
                        generalize hVe : valF p x ts = V at *
                        generalize hit p ts vs x = c at *
                        by_cases hVz : V = z
                        · have e1 : (V == z) = true := by simp [hVz]
                          have Hs2 := Lib.hid (show hit p ts vs (x + 1) = c + 1 by rw [Hs1.out, Hg.out, if_pos (by simpa using hVz)])
                          clear hVz hVe
                          go_wp2_with fail
                          refine HV.out.mono ?_
                          rintro e w7 ⟨rfl, hb7⟩
                          have hB7 := bnext hBx hb7
                          clear HV hb7
                          go_wp2
                          go_roundw
                          case rel => exact ⟨x + 1, by go_num, by omega, by rw [Hs2.out]; go_num, hB7⟩
                          case measure => simp [intOf] <;> omega
                        · have e1 : (V == z) = false := by simp [hVz]
                          have Hs2 := Lib.hid (show hit p ts vs (x + 1) = c by rw [Hs1.out, Hg.out, if_neg (by simpa using hVz)]; rfl)
                          clear hVz hVe
                          go_wp2_with fail
                          refine HV.out.mono ?_
                          rintro e w7 ⟨rfl, hb7⟩
                          have hB7 := bnext hBx hb7
                          clear HV hb7
                          go_wp2
                          go_roundw
                          case rel => exact ⟨x + 1, by go_num, by omega, by rw [Hs2.out], hB7⟩
                          case measure => simp [intOf] <;> omega
                      · have hxe : x = vs.length := by omega
                        subst hxe
                        have hB5 := bnext hB4 hBx
                        have Hbest5 := Lib.hid (Hbest4.out.below hBx)
                        have Htr5 := Lib.hid (Htr.out.below hBx)
                        have hcl := Hhl.out vs.length
                        have htl := HtL2.out
                        clear hBx hB4 Hhs Hhl Hh0 Hbest4 Htr Htri HtL2 HtB2
                        generalize hit p ts vs vs.length = c at *
                        by_cases h1 : most < c
                        · have h1I : (most : Int) < (c : Int) := by omega
                          have hst := HS.out.1 h1
                          have Hst := Lib.hid (show mvF p K vs vs.length (set + 1) = ⟨ts, vs.length - c, false⟩ by rw [Hsn.out]; exact hst.1)
                          have Hms := Lib.hid (show Mst vs.length ⟨ts, vs.length - c, false⟩ c by have h := hst.2; rw [hst.1] at h; exact h)
                          clear hst
                          go_wp2
                          go_roundw
                          case rel => exact ⟨set + 1, c, ⟨ts, vs.length - c, false⟩, by go_num, by omega, Hst.out, Hms.out, Htr5.out, htl, rfl, hcl, rfl, hB5⟩
                          case measure => simp [intOf] <;> omega
                        · have h1I : ¬ (most : Int) < (c : Int) := by omega
                          by_cases h2 : c = most
                          · subst h2
                            have h2b : ((c : Int) == (c : Int)) = true := by simp
                            by_cases h3 : ts = bst
                            · have h3e : eqL bst ts = true := by rw [h3]; exact eqL_self _
                              have Hst := Lib.hid (show mvF p K vs vs.length (set + 1) = ⟨bst, lst, sev⟩ by rw [Hsn.out]; exact HS.out.2.2 h1 (fun hh => hh.2 h3))
                              clear h3
                              go_wp2_with fail
                              refine (slEqual_any _ _ bst ts _ Hbest5.out.ri Htr5.out.ri).mono ?_
                              rw [h3e]
                              rintro e w7 ⟨rfl, m2, rfl⟩
                              have hB7 := bnext hB5 (below_drewN _ m2)
                              have Hbest7 := Lib.hid (Hbest5.out.below (below_drewN _ m2))
                              go_wp2
                              go_roundw
                              case rel => exact ⟨set + 1, c, ⟨bst, lst, sev⟩, by go_num, by omega, Hst.out, Hmst.out, Hbest7.out, hbl, rfl, hle, rfl, hB7⟩
                              case measure => simp [intOf] <;> omega
                            · have h3e : eqL bst ts = false := by cases h : eqL bst ts with | false => rfl | true => exact absurd (eqL_true h).symm h3
                              have hst := HS.out.2.1 rfl h3
                              have Hst := Lib.hid (show mvF p K vs vs.length (set + 1) = ⟨bst, lst, true⟩ by rw [Hsn.out]; exact hst.1)
                              have Hms := Lib.hid (show Mst vs.length ⟨bst, lst, true⟩ c by have h := hst.2; rw [hst.1] at h; exact h)
                              clear h3 hst
                              go_wp2_with fail
                              refine (slEqual_any _ _ bst ts _ Hbest5.out.ri Htr5.out.ri).mono ?_
                              rw [h3e]
                              rintro e w7 ⟨rfl, m2, rfl⟩
                              have hB7 := bnext hB5 (below_drewN _ m2)
                              have Hbest7 := Lib.hid (Hbest5.out.below (below_drewN _ m2))
                              go_wp2
                              go_roundw
                              case rel => exact ⟨set + 1, c, ⟨bst, lst, true⟩, by go_num, by omega, Hst.out, Hms.out, Hbest7.out, hbl, rfl, hle, rfl, hB7⟩
                              case measure => simp [intOf] <;> omega
                          · have h2b : ((c : Int) == (most : Int)) = false := by simp; omega
                            have Hst := Lib.hid (show mvF p K vs vs.length (set + 1) = ⟨bst, lst, sev⟩ by rw [Hsn.out]; exact HS.out.2.2 h1 (fun hh => h2 hh.1))
                            go_wp2
                            go_roundw
                            case rel => exact ⟨set + 1, most, ⟨bst, lst, sev⟩, by go_num, by omega, Hst.out, Hmst.out, Hbest5.out, hbl, rfl, hle, rfl, hB5⟩
                            case measure => simp [intOf] <;> omega
              · have hwb : (((wt set : Nat) : Int) != (K : Int)) = true := by simp; omega
                have Hst := Lib.hid (show mvF p K vs vs.length (set + 1) = ⟨bst, lst, sev⟩ by rw [Hsn.out, mvStep_no hw])
                go_wp2_with (go_at_call 26; refine (onesCnt_any set hs65 _).mono ?_; rintro e w' ⟨rfl, rfl⟩)
                go_roundw
                case rel => exact ⟨set + 1, most, ⟨bst, lst, sev⟩, by go_num, by omega, Hst.out, Hmst.out, Hbest.out, hbl, rfl, hle, rfl, HB.out⟩
                case measure => simp [intOf] <;> omega
            · have hse : set = L := by omega
              subst hse
              have HR := Lib.hid (show mvR p K vs = ⟨bst, lst, sev⟩ by rw [← Hse.out, ← Hs.out, mvR, Int.toNat_natCast, HL.out])
              have Hll := Lib.hid (show most + lst = vs.length by
                have h1 := mvR_least H0.out
                rw [HR.out] at h1
                replace h1 : lst ≤ vs.length := h1
                rcases Hmst.out with ⟨e, _⟩ | ⟨_, h2, _⟩
                · have h3 : lst = vs.length + 1 := congrArg Mv.least e
                  omega
                · exact h2)
              cases sev with
              | true =>
                have HZ := Lib.hid (mv_no (p := p) (k := K) (vs := vs) (by rw [mvOk, HR.out]; simp))
                go_wp2
                go_ret3
                exact ⟨_, ret3 rfl (vi HZ.out.2.1.symm) (vb HZ.out.1.symm), by rw [HZ.out.2.2]; exact OI.nil _ _, HB.out⟩
              | false =>
                have HZ := Lib.hid (mv_yes (p := p) (k := K) (vs := vs) (by rw [mvOk, HR.out, H0.out]; rfl))
                go_wp2
                go_ret3
                exact ⟨_, ret3 rfl (vi (by rw [HZ.out.2.1, HR.out]; have := Hll.out; show (vs.length : Int) - most = (lst : Int); omega)) (vb HZ.out.1.symm), by rw [HZ.out.2.2, HR.out]; exact Hbest.out, HB.out⟩
        · have d2 : decide ((vs.length : Int) < k) = true := decide_eq_true (by omega)
          have HZ := Lib.hid (mv_no0 (p := p) (k := k) (vs := vs) (by simp [mvOk0, hlk]))
          clear hz
          go_enter Try.func12, Try.ntmps12
          go_wp2_with fail
          refine (areNumbers_any p _ vs _ _ _ h).mono ?_
          rw [hn]
          rintro e w1 ⟨rfl, hb1⟩
          go_wp2_with fail
          refine (within_any _ _ _ _).mono ?_
          rw [hk]
          rintro e w2 ⟨rfl, rfl⟩
          go_wp2
          go_ret3
          exact ⟨_, ret3 rfl (vi HZ.out.2.1.symm) (vb HZ.out.1.symm), by rw [HZ.out.2.2]; exact OI.nil _ _, hb1⟩
      · have d1 : decide (p ≤ (vs.length : Int)) = true := decide_eq_true (by omega)
        have HZ := Lib.hid (mv_no0 (p := p) (k := k) (vs := vs) (by simp [mvOk0, hlp]))
        clear hz
        go_enter Try.func12, Try.ntmps12
        go_wp2_with fail
        refine (areNumbers_any p _ vs _ _ _ h).mono ?_
        rw [hn]
        rintro e w1 ⟨rfl, hb1⟩
        go_wp2_with fail
        refine (within_any _ _ _ _).mono ?_
        rw [hk]
        rintro e w2 ⟨rfl, rfl⟩
        go_wp2
        go_ret3
        exact ⟨_, ret3 rfl (vi HZ.out.2.1.symm) (vb HZ.out.1.symm), by rw [HZ.out.2.2]; exact OI.nil _ _, hb1⟩
    · have hk : inB k 1 3 = false := by simpa using hk
      have HZ := Lib.hid (mv_no0 (p := p) (k := k) (vs := vs) (by simp [mvOk0, hk]))
      clear hz
      go_enter Try.func12, Try.ntmps12
      go_wp2_with fail
      refine (areNumbers_any p _ vs _ _ _ h).mono ?_
      rw [hn]
      rintro e w1 ⟨rfl, hb1⟩
      go_wp2_with fail
      refine (within_any _ _ _ _).mono ?_
      rw [hk]
      rintro e w2 ⟨rfl, rfl⟩
      go_wp2
      go_ret3
      exact ⟨_, ret3 rfl (vi HZ.out.2.1.symm) (vb HZ.out.1.symm), by rw [HZ.out.2.2]; exact OI.nil _ _, hb1⟩
  · have hn : nums p vs 1 8 = false := by simpa using hn
    have HZ := Lib.hid (mv_no0 (p := p) (k := k) (vs := vs) (by simp [mvOk0, hn]))
    go_enter Try.func12, Try.ntmps12
    go_wp2_with fail
    refine (areNumbers_any p _ vs _ _ _ h).mono ?_
    rw [hn]
    rintro e w1 ⟨rfl, hb1⟩
    go_wp2
    go_ret3
    exact ⟨_, ret3 rfl (vi HZ.out.2.1.symm) (vb HZ.out.1.symm), by rw [HZ.out.2.2]; exact OI.nil _ _, hb1⟩
end Go.Proofs.Ytgkciionmhoofaa
