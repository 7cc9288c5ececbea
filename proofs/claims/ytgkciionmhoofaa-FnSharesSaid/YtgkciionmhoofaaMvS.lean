/- MendValues, in the reference. No conditions but that the slice reads. -/
import Derived.Test.YtgkciionmhoofaaMvQ
import Derived.Test.YtgkciionmhoofaaMvT
import Derived.Test.YtgkciionmhoofaaAppAt
import Derived.Test.YtgkciionmhoofaaPri
import Derived.Test.YtgkciionmhoofaaEq
import Derived.Test.YtgkciionmhoofaaEch
import Derived.Handy
namespace Go.Proofs.Ytgkciionmhoofaa
open Go.RowKit
set_option maxRecDepth 100000
set_option linter.unusedVariables false
set_option linter.unusedSimpArgs false

theorem mv_no {p k : Int} {vs : List Int} (h : mvOk p k vs = false) : mvOk p k vs = false ∧ mvM p k vs = 0 ∧ mvZ p k vs = [] := by unfold mvM mvZ; rw [h]; exact ⟨rfl, rfl, rfl⟩
theorem mv_yes {p k : Int} {vs : List Int} (h : mvOk p k vs = true) : mvOk p k vs = true ∧ mvM p k vs = ((mvR p k vs).least : Int) ∧ mvZ p k vs = (mvR p k vs).best := by unfold mvM mvZ; rw [h]; exact ⟨rfl, rfl, rfl⟩
theorem mv_no0 {p k : Int} {vs : List Int} (h : mvOk0 p k vs = false) : mvOk p k vs = false ∧ mvM p k vs = 0 ∧ mvZ p k vs = [] := mv_no (by rw [mvOk, h]; rfl)
set_option maxHeartbeats 2000000 in
theorem l06Misses_any (p : Int) (hp1 : 7 ≤ p) (hp2 : p ≤ 257) (vt vv : Value) (ts vs : List Int) (hz : ∀ z ∈ ts, 0 ≤ z ∧ z < p) (hl : ts.length ≤ 1048576) (hv8 : vs.length ≤ 8) (w : World) (h : RI w vt ts) (h' : RI w vv vs) :
    Calls Try.prog 35 #[.int .i64 p, vt, vv] w fun e w' => e = .returned (.int .i64 ((mis p ts vs vs.length : Nat) : Int)) ∧ ∃ n, w' = w.drewN n := by
  obtain ⟨ao, cap, rfl⟩ := h'.shape
  have H := Lib.hid h
  have H' := Lib.hid h'
  have Hz := Lib.hid hz
  clear h h' hz
  go_enter Try.func35, Try.ntmps35
  go_wp2_with fail
  go_loopw [7, 8] (fun nv xv wr => ∃ (x n : Nat), xv = .int .i64 x ∧ x ≤ vs.length ∧ nv = .int .i64 ((mis p ts vs x : Nat) : Int) ∧ mis p ts vs x ≤ x ∧ wr = w.drewN n) (fun _ xv _ => vs.length - (intOf xv).toNat)
  case atStart => exact ⟨0, 0, rfl, Nat.zero_le _, rfl, Nat.zero_le _, rfl⟩
  case round =>
    obtain ⟨x, n, rfl, hx, rfl, hmx, rfl⟩ := hrel
    by_cases hxl : x < vs.length
    · obtain ⟨b, off, e0, -, hc⟩ := H'.out.2.cells (by omega)
      obtain rfl := e0
      have hcx := hc x hxl
      have Hs := Lib.hid (mis_snoc p ts vs x)
      have Hg := Lib.hid (gI_eq hxl)
      generalize vs[x] = z at *
      have hB := below_drewN w n
      have hcx := cnext hB hcx
      have Hcl := Lib.hid (show ∀ q, Calls Try.prog 46 #[.int .i64 p, vt, .int .i64 x] ((w.drewN n).drewN q) fun e w' => e = .returned (.int .i64 (valF p x ts)) ∧ (w.drewN n).drewN q = w' from fun q => l06Value_any p x hp1 hp2 (by omega) (by omega) vt ts Hz.out hl _ ((H.out.below hB).below (below_drewN _ q)))
      have Hbn := Lib.hid (show ∀ m, (w.drewN n).drewN m = w.drewN (n + m) from fun m => World.drewN_drewN _ _ _)
      clear hc hB
      generalize hV : valF p x ts = V at *
      generalize mis p ts vs x = M at *
      generalize w.drewN n = W at *
      have hxI : (x : Int) < (vs.length : Int) := by omega
      have hx0 : (0 : Int) ≤ (x : Int) := by omega
      by_cases hVz : V = z
      · have e1 : (V != z) = false := by simp [hVz]
        have Hs2 := Lib.hid (show mis p ts vs (x + 1) = M by rw [Hs.out, Hg.out, if_pos (by simpa using hVz)]; rfl)
        clear hVz hV
        go_wp2_with fail
        go_quiet ((go_at_call 46; exact Calls.quiet_of (qi (Hcl.out _))))
        go_wp2
        go_roundw
        case rel => exact ⟨x + 1, _, by go_num, by omega, by rw [Hs2.out], by rw [Hs2.out]; omega, Hbn.out _⟩
        case measure => simp [intOf] <;> omega
      · have e1 : (V != z) = true := by simp [hVz]
        have Hs2 := Lib.hid (show mis p ts vs (x + 1) = M + 1 by rw [Hs.out, Hg.out, if_neg (by simpa using hVz)])
        clear hVz hV
        go_wp2_with fail
        go_quiet ((go_at_call 46; exact Calls.quiet_of (qi (Hcl.out _))))
        go_wp2
        go_roundw
        case rel => exact ⟨x + 1, _, by go_num, by omega, by rw [Hs2.out]; go_num, by rw [Hs2.out]; omega, Hbn.out _⟩
        case measure => simp [intOf] <;> omega
    · have hxe : x = vs.length := by omega
      subst hxe
      go_wp2
      go_ret
      exact ⟨rfl, n, rfl⟩
set_option maxHeartbeats 8000000 in
theorem specMv_any (p k : Int) (v : Value) (vs : List Int) (w : World) (h : RI w v vs) :
    Calls Try.prog 14 #[.int .i64 p, .int .i64 k, v] w fun e w' => ∃ v', e = .returned (.tuple #[v', .int .i64 (mvM p k vs), .bool (mvOk p k vs)]) ∧ OI w.heap.size w' v' (mvZ p k vs) ∧ Below w.heap.size w w' := by
  have hlen := h.len
  obtain ⟨ao, cap, rfl⟩ := h.shape
  have G := Lib.hid h
  by_cases hpr : prm p = true
  · obtain ⟨hp1, hp2⟩ := prm_bd hpr
    by_cases hk : inB k 1 3 = true
    · by_cases hn : nums p vs 1 8 = true
      · have Hn := Lib.hid ((nums_prm (zs := vs) (lo := 1) (hi := 8) hpr).symm.trans hn)
        obtain ⟨-, -, -, hl1, hl8', hz⟩ := nums_parts hn
        by_cases hlp : (vs.length : Int) < p
        · have d1 : decide (p ≤ (vs.length : Int)) = false := decide_eq_false (by omega)
          by_cases hlk : k ≤ (vs.length : Int)
          · have d2 : decide ((vs.length : Int) < k) = false := decide_eq_false (by omega)
            have H0 := Lib.hid (show mvOk0 p k vs = true by simp [mvOk0, hn, hk, hlp, hlk])
            have hkk := inB_eq hk
            simp only [if_true] at hkk
            obtain ⟨K, rfl⟩ := Int.eq_ofNat_of_zero_le (show 0 ≤ k by omega)
            have d2' : decide (vs.length < K) = false := decide_eq_false (by omega)
            have hl8 : vs.length ≤ 8 := by omega
            have hK1 : 1 ≤ K := by omega
            have Hz := Lib.hid hz
            obtain ⟨L, hL⟩ : ∃ L, 2 ^ vs.length = L := ⟨_, rfl⟩
            have hLi : (2 : Int) ^ vs.length = (L : Int) := by rw [← hL]; simp
            have hL256 : L ≤ 256 := by rw [← hL]; exact Nat.le_trans (Nat.pow_le_pow_right (by decide) hl8) (by decide)
            have HL := Lib.hid hL
            have hwn : IntKind.u64.wrap (vs.length : Int) = (vs.length : Int) := by rw [IntKind.wrap_u64]; omega
            clear hz hn hL h
            go_enter Try.func14, Try.ntmps14
            go_wp2_with fail
            refine (l06Prime_any p _).mono ?_
            rw [hpr]
            rintro e w1 ⟨rfl, hb1⟩
            go_wp2_with fail
            refine (l00In_any _ _ _ _).mono ?_
            rw [hk]
            rintro e w2 ⟨rfl, rfl⟩
            have g1 := G.out.below hb1
            go_wp2_with fail
            refine (l06Numbers_any p hp1 hp2 _ vs _ _ _ g1).mono ?_
            rw [Hn.out]
            rintro e w2 ⟨rfl, rfl⟩
            clear g1
            go_wp2_with fail
            go_loopw [10, 11, 12, 13] (fun bv lv sv iv wr => ∃ (set : Nat) (s : Mv), iv = .int .i64 set ∧ set ≤ L ∧ mvF p K vs vs.length set = s ∧ OI w.heap.size wr bv s.best ∧ s.best.length ≤ 8 ∧ lv = .int .i64 s.least ∧ s.least ≤ vs.length + 1 ∧ sv = .bool s.sev ∧ Below w.heap.size w wr) (fun _ _ _ iv _ => L - (intOf iv).toNat)
            case atStart =>
              refine ⟨0, mv0 vs.length, rfl, Nat.zero_le _, rfl, ?_, Nat.zero_le _, rfl, Nat.le_refl _, rfl, bnext hb1 (by go_grown)⟩
              exact (OwnI.oi (own_empty w1 w.heap.size hb1.size) (fun z hz => by cases hz))
            case round =>
              obtain ⟨set, s, rfl, hsl, hs, hbest, hbl, rfl, hle, rfl, hB⟩ := hrel
              have Hs := Lib.hid hs
              have Hbest := Lib.hid hbest
              have HB := Lib.hid hB
              have hB1s := hB.size
              obtain ⟨aob, capb, rfl⟩ := hbest.shape
              have hle8 : vs.length ≤ 8 := hl8
              obtain ⟨lst, hlst⟩ : ∃ lst, s.least = lst := ⟨_, rfl⟩
              obtain ⟨sev, hsev⟩ : ∃ sev, s.sev = sev := ⟨_, rfl⟩
              obtain ⟨bst, hbst⟩ : ∃ bst, s.best = bst := ⟨_, rfl⟩
              rw [hlst] at hle
              rw [hlst, hsev, hbst]
              rw [hbst] at hbl
              have Hbest := Lib.hid (show OI w.heap.size wr (.slice aob bst.length capb) bst by have h := Hbest.out; rw [hbst] at h; exact h)
              have Hse := Lib.hid (show s = ⟨bst, lst, sev⟩ by rw [← hbst, ← hlst, ← hsev])
              clear hs hbest hB hlst hsev hbst
              by_cases hlt : set < L
              · have hs65 : set < 65536 := by omega
                have hsI : (set : Int) < (L : Int) := by omega
                have Hsn := Lib.hid (show mvF p K vs vs.length (set + 1) = mvStep p K vs vs.length ⟨bst, lst, sev⟩ set by rw [mvF_snoc, Hs.out, Hse.out])
                have hsl2 : set < L := hlt
                by_cases hw : wt set = K
                · have hwb : (((wt set : Nat) : Int) != (K : Int)) = false := by simp [hw]
                  have HstepA := Lib.hid (show mvStep p K vs vs.length ⟨bst, lst, sev⟩ set = if mis p (trs p vs vs.length set) vs vs.length < lst then ⟨trs p vs vs.length set, mis p (trs p vs vs.length set) vs vs.length, false⟩ else if mis p (trs p vs vs.length set) vs vs.length = lst ∧ trs p vs vs.length set ≠ bst then ⟨bst, lst, true⟩ else ⟨bst, lst, sev⟩ by rw [mvStep, if_pos hw])
                  obtain ⟨w2, rfl⟩ : ∃ w2 : World, w2 = wr := ⟨_, rfl⟩
                  go_wp2_with (go_at_call 32; refine (l06Weight_any set hs65 _).mono ?_; rintro e w' ⟨rfl, rfl⟩)
                  go_loopw [14, 15, 16] (fun pv vv iv wq => ∃ (i : Nat), iv = .int .i64 i ∧ i ≤ vs.length ∧ Two w2.heap.size wq pv vv (pkP set i) (pkV vs set i) ∧ Below w2.heap.size w2 wq) (fun _ _ iv _ => vs.length - (intOf iv).toNat)
                  case atStart => exact ⟨0, rfl, Nat.zero_le _, two_new w2 _ (Nat.le_refl _), by go_grown⟩
                  case round =>
                    obtain ⟨i, rfl, hi, htw, hB2⟩ := hrel
                    by_cases hil : i < vs.length
                    · obtain ⟨b, off, e0, -, hc⟩ := G.out.2.cells (by omega)
                      obtain rfl := e0
                      have hci0 := cnext HB.out (hc i hil)
                      have hci := cnext hB2 hci0
                      have Hg := Lib.hid (gI_eq hil)
                      have Hs1 := Lib.hid (pkP_snoc set i)
                      have Hs2 := Lib.hid (pkV_snoc vs set i)
                      have hl1 : (pkP set i).length ≤ 8 := by rw [pkP_len]; have := pkN_len set i; omega
                      have hl2 : (pkV vs set i).length ≤ 8 := by rw [pkV_len]; have := pkN_len set i; omega
                      generalize vs[i] = z at *
                      have hsz := hB2.size
                      have hiI : (i : Int) < (vs.length : Int) := by omega
                      clear hc
                      obtain ⟨d, hd⟩ : ∃ d, hasD set i = d := ⟨_, rfl⟩
                      have Hd := Lib.hid hd
                      skip
                      cases d with
                      | true =>
                        obtain ⟨ap1, cp1, rfl⟩ := htw.a.shape
                        obtain ⟨ap2, cp2, rfl⟩ := htw.b.shape
                        have Hs1' := Lib.hid (Hs1.out.trans (if_pos Hd.out))
                        have Hs2' := Lib.hid (Hs2.out.trans (if_pos Hd.out))
                        rw [Hg.out] at Hs2'
                        clear Hs1 Hs2
                        generalize pkP set i = l1 at *
                        generalize pkV vs set i = l2 at *
                        have Htw := Lib.hid htw
                        have hown1 := htw.a
                        clear htw
                        go_wp2_with (first | (go_at_call 33; refine (l06Has_any set i (by omega) (by omega) _).mono ?_; rw [hd]; rintro e w' ⟨rfl, rfl⟩) | (at_builtin; go_must (refine app_int_at rfl _ _ rfl w2.heap.size w2.heap.size (Nat.le_refl _) (.slice ap1 l1.length cp1) l1 rfl hown1 hB2 _ _ [(i : Int)] rfl rfl (by simp; omega) hsz ?_)))
                        intro v5 w5 hown5 hB5 hg5 hat5
                        rw [← Hs1'.out] at hown5
                        have htw5 := Htw.out.first hown5 hg5 hat5
                        have hci5 := cnext hB5 hci0
                        have hsz5 := hB5.size
                        obtain ⟨ap5, cp5, rfl⟩ := hown5.shape
                        have Htw5 := Lib.hid htw5
                        have hown6 := htw5.b
                        clear hown1 hown5 hg5 hat5 htw5 Htw hci hB2 hsz
                        go_wp2_with (at_builtin; go_must (refine app_int_at rfl _ _ rfl w2.heap.size w2.heap.size (Nat.le_refl _) (.slice ap2 l2.length cp2) l2 rfl hown6 hB5 _ _ [z] rfl rfl (by simp; omega) hsz5 ?_))
                        intro v6 w6 hown7 hB6 hg6 hat6
                        rw [← Hs2'.out] at hown7
                        have htw6 := Htw5.out.second hown7 hg6 hat6
                        have Htw6 := Lib.hid htw6
                        obtain ⟨ap6, cp6, rfl⟩ := hown7.shape
                        clear hown6 hown7 hg6 hat6 htw6 Htw5 hci5
                        go_wp2
                        go_roundw
                        case rel => exact ⟨i + 1, by go_num, by omega, Htw6.out, hB6⟩
                        case measure => simp [intOf] <;> omega
                      | false =>
                        have Hs1' := Lib.hid (Hs1.out.trans (if_neg (by rw [Hd.out]; decide)))
                        have Hs2' := Lib.hid (Hs2.out.trans (if_neg (by rw [Hd.out]; decide)))
                        have htw2 := htw
                        rw [← Hs1'.out, ← Hs2'.out] at htw2
                        have Htw2 := Lib.hid htw2
                        clear htw htw2 Hs1 Hs2 Hs1' Hs2'
                        go_wp2_with (go_at_call 33; refine (l06Has_any set i (by omega) (by omega) _).mono ?_; rw [hd]; rintro e w' ⟨rfl, rfl⟩)
                        go_roundw
                        case rel => exact ⟨i + 1, by go_num, by omega, Htw2.out, hB2⟩
                        case measure => simp [intOf] <;> omega
                    · have hie : i = vs.length := by omega
                      subst hie
                      obtain ⟨ap1, cp1, rfl⟩ := htw.a.shape
                      obtain ⟨ap2, cp2, rfl⟩ := htw.b.shape
                      have hn1 : 1 ≤ (pkN set vs.length).length := by
                        obtain ⟨j, hj, hdj⟩ := digit_ex (set := set) (n := vs.length) (fun e => by rw [e, wt_zero] at hw; omega) (by rw [HL.out]; exact hlt)
                        exact List.length_pos_of_mem (show j ∈ pkN set vs.length by unfold pkN; rw [List.mem_filter, List.mem_range]; exact ⟨hj, hdj⟩)
                      have hn8 := pkN_len set vs.length
                      have hPb := pkP_bd (set := set) (i := vs.length) (p := p) (by omega)
                      have hVb := pkV_bd (vs := vs) (set := set) (i := vs.length) (show 0 < p by omega) Hz.out
                      have hT := l06Terms_any p hpr _ _ (pkP set vs.length) (pkV vs set vs.length) (by rw [pkP_len, pkV_len]) (by rw [pkP_len]; exact hn1) (by rw [pkP_len]; omega) hPb hVb (pkP_dst set vs.length) _ (htw.a.oi (bd_i64 hp2 hPb)).ri (htw.b.oi (bd_i64 hp2 hVb)).ri
                      have HT := Lib.hid hT
                      have hB3 := bnext HB.out hB2
                      have Hbest3 := Lib.hid (Hbest.out.below hB2)
                      have HtB := Lib.hid (trm_bd (show 0 < p by omega) (pkP set vs.length) (pkV vs set vs.length))
                      have HtL := Lib.hid (trs_len p vs vs.length set)
                      clear hT hn1 hn8 hPb hVb htw hB2
                      go_wp2_with fail
                      refine HT.out.mono ?_
                      rintro e w4 ⟨vt, rfl, hot, hb4⟩
                      have hB4 := bnext hB3 hb4
                      have Hbest4 := Lib.hid (Hbest3.out.below hb4)
                      have htri := hot.ri
                      have hotb : OI w.heap.size w4 vt (trm p (pkP set vs.length) (pkV vs set vs.length)) := hot.mono hB3.size
                      have Hotb := Lib.hid hotb
                      clear hB3 Hbest3 HT hot hotb hb4
                      change RI w4 vt (trs p vs vs.length set) at htri
                      have Htr := Lib.hid (show OI w.heap.size w4 vt (trs p vs vs.length set) from Hotb.out)
                      clear Hotb
                      have HtB2 := Lib.hid (show ∀ z ∈ trs p vs vs.length set, 0 ≤ z ∧ z < p from HtB.out)
                      clear HtB
                      go_wp2_with fail
                      refine (l06Misses_any p hp1 hp2 _ _ (trs p vs vs.length set) vs HtB2.out (by have := HtL.out; omega) hl8 _ htri (G.out.below hB4)).mono ?_
                      rintro e w5 ⟨rfl, m, rfl⟩
                      have hB5 := bnext hB4 (below_drewN w4 m)
                      have Hbest5 := Lib.hid (Hbest4.out.below (below_drewN w4 m))
                      have Htr5 := Lib.hid (Htr.out.below (below_drewN w4 m))
                      have hmle : mis p (trs p vs vs.length set) vs vs.length ≤ vs.length := by have := mis_hit p (trs p vs vs.length set) vs vs.length; omega
                      clear Hbest4 Htr htri hB4 HtB2
                      generalize w4.drewN m = w6 at *
                      have htl := HtL.out
                      clear HtL
                      generalize mis p (trs p vs vs.length set) vs vs.length = M at *
                      generalize trs p vs vs.length set = ts at *
                      obtain ⟨aot, capt, rfl⟩ := Htr5.out.shape
                      by_cases h1 : M < lst
                      · have h1I : (M : Int) < (lst : Int) := by omega
                        have Hst := Lib.hid (show mvF p K vs vs.length (set + 1) = ⟨ts, M, false⟩ by rw [Hsn.out, HstepA.out, if_pos h1])
                        go_wp2
                        go_roundw
                        case rel => exact ⟨set + 1, ⟨ts, M, false⟩, by go_num, by omega, Hst.out, Htr5.out, by show ts.length ≤ 8; omega, rfl, by show M ≤ vs.length + 1; omega, rfl, hB5⟩
                        case measure => simp [intOf] <;> omega
                      · have h1I : ¬ (M : Int) < (lst : Int) := by omega
                        by_cases h2 : M = lst
                        · subst h2
                          have h2b : ((M : Int) == (M : Int)) = true := by simp
                          by_cases h3 : ts = bst
                          · have h3e : eqL ts bst = true := by rw [h3]; exact eqL_self _
                            have Hst := Lib.hid (show mvF p K vs vs.length (set + 1) = ⟨bst, M, sev⟩ by rw [Hsn.out, HstepA.out, if_neg h1, if_neg (fun hh => hh.2 h3)])
                            clear h3
                            go_wp2_with fail
                            refine (l04Equal_any _ _ ts bst _ Htr5.out.ri Hbest5.out.ri).mono ?_
                            rw [h3e]
                            rintro e w7 ⟨rfl, m2, rfl⟩
                            have hB7 := bnext hB5 (below_drewN w6 m2)
                            have Hbest7 := Lib.hid (Hbest5.out.below (below_drewN w6 m2))
                            go_wp2
                            go_roundw
                            case rel => exact ⟨set + 1, ⟨bst, M, sev⟩, by go_num, by omega, Hst.out, Hbest7.out, hbl, rfl, hle, rfl, hB7⟩
                            case measure => simp [intOf] <;> omega
                          · have h3e : eqL ts bst = false := by cases h : eqL ts bst with | false => rfl | true => exact absurd (eqL_true h) h3
                            have Hst := Lib.hid (show mvF p K vs vs.length (set + 1) = ⟨bst, M, true⟩ by rw [Hsn.out, HstepA.out, if_neg h1, if_pos ⟨rfl, h3⟩])
                            clear h3
                            go_wp2_with fail
                            refine (l04Equal_any _ _ ts bst _ Htr5.out.ri Hbest5.out.ri).mono ?_
                            rw [h3e]
                            rintro e w7 ⟨rfl, m2, rfl⟩
                            have hB7 := bnext hB5 (below_drewN w6 m2)
                            have Hbest7 := Lib.hid (Hbest5.out.below (below_drewN w6 m2))
                            go_wp2
                            go_roundw
                            case rel => exact ⟨set + 1, ⟨bst, M, true⟩, by go_num, by omega, Hst.out, Hbest7.out, hbl, rfl, hle, rfl, hB7⟩
                            case measure => simp [intOf] <;> omega
                        · have h2b : ((M : Int) == (lst : Int)) = false := by simp; omega
                          have Hst := Lib.hid (show mvF p K vs vs.length (set + 1) = ⟨bst, lst, sev⟩ by rw [Hsn.out, HstepA.out, if_neg h1, if_neg (fun hh => h2 hh.1)])
                          go_wp2
                          go_roundw
                          case rel => exact ⟨set + 1, ⟨bst, lst, sev⟩, by go_num, by omega, Hst.out, Hbest5.out, hbl, rfl, hle, rfl, hB5⟩
                          case measure => simp [intOf] <;> omega
                · have hwb : (((wt set : Nat) : Int) != (K : Int)) = true := by simp; omega
                  have Hst := Lib.hid (show mvF p K vs vs.length (set + 1) = ⟨bst, lst, sev⟩ by rw [Hsn.out, mvStep_no hw])
                  go_wp2_with (go_at_call 32; refine (l06Weight_any set hs65 _).mono ?_; rintro e w' ⟨rfl, rfl⟩)
                  go_roundw
                  case rel => exact ⟨set + 1, ⟨bst, lst, sev⟩, by go_num, by omega, Hst.out, Hbest.out, hbl, rfl, hle, rfl, HB.out⟩
                  case measure => simp [intOf] <;> omega
              · have hse : set = L := by omega
                subst hse
                have HR := Lib.hid (show mvR p K vs = ⟨bst, lst, sev⟩ by rw [← Hse.out, ← Hs.out, mvR, Int.toNat_natCast, HL.out])
                cases sev with
                | true =>
                  have HZ := Lib.hid (mv_no (p := p) (k := K) (vs := vs) (by rw [mvOk, HR.out]; simp))
                  go_wp2
                  go_ret3
                  exact ⟨_, ret3 rfl (vi HZ.out.2.1.symm) (vb HZ.out.1.symm), by rw [HZ.out.2.2]; exact OI.nil _ _, HB.out⟩
                | false =>
                  have HZ := Lib.hid (mv_yes (p := p) (k := K) (vs := vs) (by rw [mvOk, HR.out, H0.out]; rfl))
                  go_wp2
                  go_ret3
                  exact ⟨_, ret3 rfl (vi (by rw [HZ.out.2.1, HR.out])) (vb HZ.out.1.symm), by rw [HZ.out.2.2, HR.out]; exact Hbest.out, HB.out⟩
          · have d2 : decide ((vs.length : Int) < k) = true := decide_eq_true (by omega)
            have HZ := Lib.hid (mv_no0 (p := p) (k := k) (vs := vs) (by simp [mvOk0, hlk]))
            clear hz hn
            go_enter Try.func14, Try.ntmps14
            go_wp2_with fail
            refine (l06Prime_any p _).mono ?_
            rw [hpr]
            rintro e w1 ⟨rfl, hb1⟩
            go_wp2_with fail
            refine (l00In_any _ _ _ _).mono ?_
            rw [hk]
            rintro e w2 ⟨rfl, rfl⟩
            have g1 := G.out.below hb1
            go_wp2_with fail
            refine (l06Numbers_any p hp1 hp2 _ vs _ _ _ g1).mono ?_
            rw [Hn.out]
            rintro e w2 ⟨rfl, rfl⟩
            go_wp2
            go_ret3
            exact ⟨_, ret3 rfl (vi HZ.out.2.1.symm) (vb HZ.out.1.symm), by rw [HZ.out.2.2]; exact OI.nil _ _, hb1⟩
        · have d1 : decide (p ≤ (vs.length : Int)) = true := decide_eq_true (by omega)
          have HZ := Lib.hid (mv_no0 (p := p) (k := k) (vs := vs) (by simp [mvOk0, hlp]))
          clear hz hn
          go_enter Try.func14, Try.ntmps14
          go_wp2_with fail
          refine (l06Prime_any p _).mono ?_
          rw [hpr]
          rintro e w1 ⟨rfl, hb1⟩
          go_wp2_with fail
          refine (l00In_any _ _ _ _).mono ?_
          rw [hk]
          rintro e w2 ⟨rfl, rfl⟩
          have g1 := G.out.below hb1
          go_wp2_with fail
          refine (l06Numbers_any p hp1 hp2 _ vs _ _ _ g1).mono ?_
          rw [Hn.out]
          rintro e w2 ⟨rfl, rfl⟩
          go_wp2
          go_ret3
          exact ⟨_, ret3 rfl (vi HZ.out.2.1.symm) (vb HZ.out.1.symm), by rw [HZ.out.2.2]; exact OI.nil _ _, hb1⟩
      · have hn : nums p vs 1 8 = false := by simpa using hn
        have Hn := Lib.hid ((nums_prm (zs := vs) (lo := 1) (hi := 8) hpr).symm.trans hn)
        have HZ := Lib.hid (mv_no0 (p := p) (k := k) (vs := vs) (by simp [mvOk0, hn]))
        clear hn
        go_enter Try.func14, Try.ntmps14
        go_wp2_with fail
        refine (l06Prime_any p _).mono ?_
        rw [hpr]
        rintro e w1 ⟨rfl, hb1⟩
        go_wp2_with fail
        refine (l00In_any _ _ _ _).mono ?_
        rw [hk]
        rintro e w2 ⟨rfl, rfl⟩
        have g1 := G.out.below hb1
        go_wp2_with fail
        refine (l06Numbers_any p hp1 hp2 _ vs _ _ _ g1).mono ?_
        rw [Hn.out]
        rintro e w2 ⟨rfl, rfl⟩
        go_wp2
        go_ret3
        exact ⟨_, ret3 rfl (vi HZ.out.2.1.symm) (vb HZ.out.1.symm), by rw [HZ.out.2.2]; exact OI.nil _ _, hb1⟩
    · have hk : inB k 1 3 = false := by simpa using hk
      have HZ := Lib.hid (mv_no0 (p := p) (k := k) (vs := vs) (by simp [mvOk0, hk]))
      go_enter Try.func14, Try.ntmps14
      go_wp2_with fail
      refine (l06Prime_any p _).mono ?_
      rw [hpr]
      rintro e w1 ⟨rfl, hb1⟩
      go_wp2_with fail
      refine (l00In_any _ _ _ _).mono ?_
      rw [hk]
      rintro e w2 ⟨rfl, rfl⟩
      go_wp2
      go_ret3
      exact ⟨_, ret3 rfl (vi HZ.out.2.1.symm) (vb HZ.out.1.symm), by rw [HZ.out.2.2]; exact OI.nil _ _, hb1⟩
  · have hpr : prm p = false := by simpa using hpr
    have HZ := Lib.hid (mv_no0 (p := p) (k := k) (vs := vs) (by simp [mvOk0, nums, hpr]))
    go_enter Try.func14, Try.ntmps14
    go_wp2_with fail
    refine (l06Prime_any p _).mono ?_
    rw [hpr]
    rintro e w1 ⟨rfl, hb1⟩
    go_wp2
    go_ret3
    exact ⟨_, ret3 rfl (vi HZ.out.2.1.symm) (vb HZ.out.1.symm), by rw [HZ.out.2.2]; exact OI.nil _ _, hb1⟩
end Go.Proofs.Ytgkciionmhoofaa
