/- UnmergeText: what the program returns. No conditions but that the slices read. -/
import Derived.Test.YtjeakgakpioieaaMrgP
import Derived.Test.YtjeakgakpioieaaClone
namespace Go.Proofs.Ytjeakgakpioieaa
open Go.RowKit
set_option maxRecDepth 100000
set_option linter.unusedVariables false
set_option linter.unusedSimpArgs false

theorem sgn_bd' {a : Int} (h : sgn a = true) : 2 ≤ a ∧ a ≤ 16 := by have := inB_eq h; simpa using this
/-- Two elements of a slice. -/
theorem RI.two {w : World} {ao : Option Addr} {m cap : Nat} {zs : List Int} (h : RI w (.slice ao m cap) zs) (k : Nat) (hk : k + 1 < zs.length) :
    ∃ b off, ao = some ⟨b, off, none⟩ ∧ RI w (.slice (some ⟨b, off + k, none⟩) 2 (cap - k)) [gi zs k, gi zs (k + 1)] := by
  obtain ⟨hz, ao', cap', e, h1, h2, h3⟩ := h
  simp only [Value.slice.injEq] at e
  obtain ⟨rfl, rfl, rfl⟩ := e
  obtain ⟨b, off, rfl, hc0⟩ := h3 k (by omega)
  obtain ⟨b', off', e', hc1⟩ := h3 (k + 1) hk
  simp only [Option.some.injEq, Addr.mk.injEq, and_true] at e'
  obtain ⟨rfl, rfl⟩ := e'
  refine ⟨b, off, rfl, ?_, _, cap - k, rfl, by simp; omega, by omega, fun i hi => ⟨b, off + k, rfl, ?_⟩⟩
  · intro z hz'
    simp only [List.mem_cons, List.not_mem_nil, or_false] at hz'
    rcases hz' with rfl | rfl
    · exact gi_i64 hz k
    · exact gi_i64 hz (k + 1)
  · simp only [List.length_cons, List.length_nil] at hi
    match i, hi with
    | 0, _ => simpa [gi_eq (show k < zs.length by omega)] using hc0
    | 1, _ =>
      have e : off + k + 1 = off + (k + 1) := by omega
      have e2 : [gi zs k, gi zs (k + 1)][1] = zs[k + 1] := gi_eq hk
      rw [e, e2]; exact hc1
theorem exp1_snoc (L a b : Int) (xs : List Int) (z : Int) : exp1 L a b (xs ++ [z]) = exp1 L a b xs ++ (if z = L then [a, b] else [z]) := by
  rw [exp1_app]; rfl
theorem exp1_i64 {L a b : Int} {zs : List Int} (h : AllI64 zs) (ha : I64 a) (hb : I64 b) : AllI64 (exp1 L a b zs) := by
  induction zs with
  | nil => intro z hz; cases hz
  | cons z zs ih =>
    have h1 := h z (by simp)
    have h2 := ih fun y hy => h y (List.mem_cons_of_mem _ hy)
    rw [exp1]; intro y hy; split at hy
    · simp only [List.mem_cons] at hy
      rcases hy with rfl | rfl | hy
      · exact ha
      · exact hb
      · exact h2 y hy
    · simp only [List.mem_cons] at hy
      rcases hy with rfl | hy
      · exact h1
      · exact h2 y hy
set_option maxHeartbeats 4000000 in
theorem implUnm_any (v : Value) (zs : List Int) (vr : Value) (rs : List Int) (n : Int) (w : World) (h : RI w v zs) (hr : RI w vr rs) :
    Calls Try.prog 15 #[v, vr, .int .i64 n] w fun e w' => ∃ v', e = .returned (.tuple #[v', .bool (umOk zs rs n)]) ∧ OI w.heap.size w' v' (umZ zs rs n) ∧ Below w.heap.size w w' := by
  have h0 := h
  have hr0 := hr
  have hlen := h.len
  have hrlen := hr.len
  obtain ⟨ao, cap, rfl⟩ := h.shape
  obtain ⟨aor, capr, rfl⟩ := hr.shape
  by_cases hs : sgn n = true
  · obtain ⟨hn1, hn2⟩ := sgn_bd' hs
    by_cases h2 : rs.length % 2 = 0
    · have d2 : (((rs.length : Int) % 2) != 0) = false := by simp; omega
      obtain ⟨c, hc⟩ : ∃ c, rs.length = 2 * c := ⟨rs.length / 2, by omega⟩
      have hcd : (rs.length : Int) / 2 = (c : Int) := by omega
      have hcn : rs.length / 2 = c := by omega
      have Hc := Lib.hid hc
      have Hcn := Lib.hid hcn
      by_cases h8 : c ≤ 8
      · have d8 : decide (8 < (c : Int)) = false := decide_eq_false (by omega)
        by_cases h64 : zs.length ≤ 64
        · by_cases hin : allIn zs 0 (n + (c : Int) - 1) = true
          · have HOK := Lib.hid (show umOk zs rs n = (ruF n rs c 0 && decide ((umF n rs c zs).length ≤ 64)) by simp [umOk, umIn, hcn, hs, h2, h8, h64, hin])
            have HZ := Lib.hid (show umZ zs rs n = if umOk zs rs n = true then umF n rs c zs else [] by rw [umZ, hcn])
            have hinz : In0 (n + c) zs := fun z hz => by have := (allIn_iff _ _ _).1 hin z hz; omega
            have Hinz := Lib.hid hinz
            clear h2 hc hcn hinz
            go_enter Try.func15, Try.ntmps15
            go_wp2_with (first | (go_at_call 24; refine (areSigns_any _ _).mono ?_; rw [hs]; rintro e w' ⟨rfl, rfl⟩) | (go_at_call 34; refine (areWithin_any _ zs _ _ _ h0).mono ?_; rw [hin]; rintro e w' ⟨rfl, rfl⟩))
            go_loop [46] (fun iv => ∃ i : Nat, iv = .int .i64 i ∧ i ≤ c ∧ ruF n rs (c - i) i = ruF n rs c 0) (fun iv => c - (intOf iv).toNat)
            case atStart => exact ⟨0, rfl, Nat.zero_le _, rfl⟩
            case round =>
              obtain ⟨i, rfl, hi, hru⟩ := hrel
              by_cases hic : i < c
              · have hru' : (inB (gi rs (2 * i)) 0 (n + i - 1) && inB (gi rs (2 * i + 1)) 0 (n + i - 1) && ruF n rs (c - (i + 1)) (i + 1)) = ruF n rs c 0 := by
                  rw [← hru, show c - i = (c - (i + 1)) + 1 by omega, ruF]
                obtain ⟨b, off, rfl, htwo⟩ := hr0.two (2 * i) (by have := Hc.out; omega)
                have hcap : rs.length ≤ capr := by
                  obtain ⟨_, _, _, e, h1, _⟩ := hr0
                  simp only [Value.slice.injEq] at e; obtain ⟨_, _, rfl⟩ := e; exact h1
                have hsub : 2 * i + 2 ≤ rs.length := by have := Hc.out; omega
                have Hru := Lib.hid hru'
                clear hru hru'
                by_cases hw : allIn [gi rs (2 * i), gi rs (2 * i + 1)] 0 (n + i - 1) = true
                · have hru2 : ruF n rs (c - (i + 1)) (i + 1) = ruF n rs c 0 := by
                    have h := Hru.out
                    simp only [allIn, Bool.and_eq_true, Bool.and_true] at hw
                    rw [hw.1, hw.2] at h; exact h
                  have Hr2 := Lib.hid hru2
                  clear hru2
                  go_wp2_with (go_at_call 34; refine (areWithin_any _ _ _ _ _ htwo).mono ?_; rw [hw]; rintro e w' ⟨rfl, rfl⟩)
                  go_round
                  case rel => exact ⟨i + 1, by go_num, by omega, Hr2.out⟩
                  case measure => simp [intOf] <;> omega
                · have hw : allIn [gi rs (2 * i), gi rs (2 * i + 1)] 0 (n + i - 1) = false := by simpa using hw
                  have hf : ruF n rs c 0 = false := by
                    rw [← Hru.out, Bool.eq_false_iff]; intro h
                    simp only [Bool.and_eq_true] at h
                    simp [allIn, h.1.1, h.1.2] at hw
                  have hf2 : umOk zs rs n = false := by rw [HOK.out, hf]; rfl
                  have Hf := Lib.hid hf2
                  clear hf hf2
                  go_wp2_with (go_at_call 34; refine (areWithin_any _ _ _ _ _ htwo).mono ?_; rw [hw]; rintro e w' ⟨rfl, rfl⟩)
                  go_ret2
                  exact ⟨_, ret2 rfl (vb Hf.out.symm), by rw [HZ.out, Hf.out]; exact OI.nil _ _, Below.refl _ _⟩
              · have hrt : ruF n rs c 0 = true := by rw [← hru, show c - i = 0 by omega]; rfl
                have Hrt := Lib.hid hrt
                clear hru hrt
                go_wp2_with fail
                refine (clone_any _ zs _ h0 (by omega)).mono ?_
                rintro e w1 ⟨v1, rfl, ho1, hb1⟩
                go_wp2
                go_loopw [10, 11] (fun ov iv wr => ∃ (k : Nat) (cur : List Int), iv = .int .i64 ((k : Int) - 1) ∧ k ≤ c ∧ umF n rs k cur = umF n rs c zs ∧ In0 (n + k) cur ∧ cur.length ≤ 64 * 2 ^ (c - k) ∧ OI w.heap.size wr ov cur ∧ Below w.heap.size w wr) (fun _ iv _ => (intOf iv + 1).toNat)
                case atStart => exact ⟨c, zs, rfl, Nat.le_refl _, rfl, Hinz.out, by simp; omega, ho1, hb1⟩
                case round =>
                  clear ho1 hb1
                  obtain ⟨k, cur, rfl, hk, hq, hin0, hcl, ho, hB⟩ := hrel
                  obtain ⟨ao1, cap1, rfl⟩ := ho.shape
                  have Hq := Lib.hid hq
                  have Hin0 := Lib.hid hin0
                  have hcl2 : cur.length ≤ 16384 := Nat.le_trans hcl (by
                    have : 2 ^ (c - k) ≤ 2 ^ 8 := Nat.pow_le_pow_right (by decide) (by omega)
                    omega)
                  have Hcl := Lib.hid hcl
                  clear hq hin0 hcl
                  cases k with
                  | zero =>
                    have hfin : umF n rs c zs = cur := by rw [← Hq.out]; rfl
                    have htx : txt cur n = decide (cur.length ≤ 64) := by
                      have : allIn cur 0 (n - 1) = true := (allIn_iff _ _ _).2 fun z hz => by have := Hin0.out z hz; simp at this; omega
                      rw [txt, hs, this]; simp
                    have Hfin := Lib.hid hfin
                    by_cases h64' : cur.length ≤ 64
                    · rw [decide_eq_true h64'] at htx
                      clear hfin
                      go_wp2_with (go_at_call 20; refine (isText_any _ cur _ _ ho.ri).mono ?_; rw [htx]; rintro e w' ⟨rfl, rfl⟩)
                      go_ret2
                      have hgood : umOk zs rs n = true := by rw [HOK.out, Hrt.out, Hfin.out]; simp [h64']
                      exact ⟨_, ret2 rfl (vb hgood.symm), by rw [HZ.out, if_pos hgood, Hfin.out]; exact ho, hB⟩
                    · rw [decide_eq_false h64'] at htx
                      clear hfin
                      go_wp2_with (go_at_call 20; refine (isText_any _ cur _ _ ho.ri).mono ?_; rw [htx]; rintro e w' ⟨rfl, rfl⟩)
                      go_ret2
                      have hbad : umOk zs rs n = false := by rw [HOK.out, Hrt.out, Hfin.out]; simp; omega
                      exact ⟨_, ret2 rfl (vb hbad.symm), by rw [HZ.out, hbad]; exact OI.nil _ _, hB⟩
                  | succ k =>
                    rw [show (((k + 1 : Nat) : Int) - 1) = (k : Int) by omega]
                    have hr1 := ruF_at Hrt.out k (by omega) (by omega)
                    have hrr := hr0.below hB
                    obtain ⟨b, off, rfl, htwo⟩ := hrr.two (2 * k) (by have := Hc.out; omega)
                    have hcap : rs.length ≤ capr := by
                      obtain ⟨_, _, _, e, h1, _⟩ := hr0
                      simp only [Value.slice.injEq] at e; obtain ⟨_, _, rfl⟩ := e; exact h1
                    have hsub : 2 * k + 2 ≤ rs.length := by have := Hc.out; omega
                    have Hr1 := Lib.hid hr1
                    have Htwo := Lib.hid htwo
                    obtain ⟨wo, rfl⟩ : ∃ wo : World, wo = wr := ⟨_, rfl⟩
                    have hl1 := exp1_len (n + k) (gi rs (2 * k)) (gi rs (2 * k + 1)) cur
                    have Hl1 := Lib.hid hl1
                    clear hr1 hrr htwo hl1
                    go_wp2_with fail
                    go_loopw [12, 74] (fun nv jv wr => ∃ j : Nat, jv = .int .i64 j ∧ j ≤ cur.length ∧ OwnI wo.heap.size wr nv (exp1 (n + k) (gi rs (2 * k)) (gi rs (2 * k + 1)) (cur.take j)) ∧ Below wo.heap.size wo wr) (fun _ jv _ => cur.length - (intOf jv).toNat)
                    case atStart => exact ⟨0, rfl, Nat.zero_le _, own_empty wo _ (Nat.le_refl _), by go_grown⟩
                    case round =>
                      obtain ⟨j, rfl, hj, hown, hB2⟩ := hrel
                      obtain ⟨ao3, cap3, rfl⟩ := hown.shape
                      have ho2 := ho.below hB2
                      by_cases hjl : j < cur.length
                      · obtain ⟨b1, off1, rfl, -, hcs⟩ := ho2.ri.2.cells (by omega)
                        have hcj := hcs j hjl
                        have hst := exp1_snoc (n + k) (gi rs (2 * k)) (gi rs (2 * k + 1)) (cur.take j) cur[j]
                        rw [← List.take_succ_eq_append_getElem hjl] at hst
                        have hlj := (exp1_len (n + k) (gi rs (2 * k)) (gi rs (2 * k + 1)) (cur.take j)).2
                        rw [List.length_take] at hlj
                        have htw2 := Htwo.out.below hB2
                        have Hcw := Lib.hid (htw2.2.cells (by simp))
                        by_cases hz : cur[j] = n + (k : Int)
                        · rw [if_pos hz] at hst
                          have Hst := Lib.hid hst
                          clear hst hcs htw2
                          have hzb : (cur[j] == n + (k : Int)) = true := by simpa using hz
                          generalize cur[j] = z at *
                          clear hz
                          go_wp2_with (at_builtin; go_must (refine app_src rfl _ _ rfl wo.heap.size wo.heap.size (Nat.le_refl _) (.slice ao3 (exp1 (n + k) (gi rs (2 * k)) (gi rs (2 * k + 1)) (cur.take j)).length cap3) (exp1 (n + k) (gi rs (2 * k)) (gi rs (2 * k + 1)) (cur.take j)) rfl hown hB2 [gi rs (2 * k), gi rs (2 * k + 1)] ⟨b, off + 2 * k, none⟩ (capr - 2 * k) ?_ ?_ (by simp; omega) hB2.size ?_))
                          · simp [Act.eval, go_sem]
                          · intro q hq
                            obtain ⟨b2, o2, e2, -, hc2⟩ := Hcw.out
                            simp only [Option.some.injEq, Addr.mk.injEq, and_true] at e2
                            obtain ⟨rfl, rfl⟩ := e2
                            rw [Addr.add_lit]; exact hc2 q hq
                          intro v' w' hown' hB' hg'
                          rw [← Hst.out] at hown'
                          clear hg' hown hB2 ho2
                          obtain ⟨ao4, cap4, rfl⟩ := hown'.shape
                          go_wp2
                          go_roundw
                          case rel => exact ⟨j + 1, by go_num, by omega, hown', hB'⟩
                          case measure => simp [intOf] <;> omega
                        · rw [if_neg hz] at hst
                          have Hst := Lib.hid hst
                          clear hst hcs htw2
                          have hzb : (cur[j] == n + (k : Int)) = false := by simpa using hz
                          generalize cur[j] = z at *
                          clear hz
                          go_wp2_with (at_builtin; go_must (refine app_ints rfl _ _ rfl wo.heap.size wo.heap.size (Nat.le_refl _) (.slice ao3 (exp1 (n + k) (gi rs (2 * k)) (gi rs (2 * k + 1)) (cur.take j)).length cap3) (exp1 (n + k) (gi rs (2 * k)) (gi rs (2 * k + 1)) (cur.take j)) rfl hown hB2 _ _ [z] rfl rfl (by simp; omega) hB2.size ?_))
                          intro v' w' hown' hB' hg'
                          rw [← Hst.out] at hown'
                          clear hg' hown hB2 ho2
                          obtain ⟨ao4, cap4, rfl⟩ := hown'.shape
                          go_wp2
                          go_roundw
                          case rel => exact ⟨j + 1, by go_num, by omega, hown', hB'⟩
                          case measure => simp [intOf] <;> omega
                      · have hnx := hown
                        rw [List.take_of_length_le (by omega)] at hnx
                        have hoi := hnx.oi (exp1_i64 ho.1 ⟨by have := Hr1.out; omega, by have := Hr1.out; omega⟩ ⟨by have := Hr1.out; omega, by have := Hr1.out; omega⟩)
                        have hq2 : umF n rs k (exp1 (n + k) (gi rs (2 * k)) (gi rs (2 * k + 1)) cur) = umF n rs c zs := by rw [← Hq.out, umF]
                        have hi2 : In0 (n + k) (exp1 (n + k) (gi rs (2 * k)) (gi rs (2 * k + 1)) cur) := exp1_in (by have := Hin0.out; rw [Int.natCast_add, ← Int.add_assoc] at this; exact this) (by have := Hr1.out; omega) (by have := Hr1.out; omega)
                        have hl2 : (exp1 (n + k) (gi rs (2 * k)) (gi rs (2 * k + 1)) cur).length ≤ 64 * 2 ^ (c - k) := by
                          have h1 := Hl1.out.2
                          have h2 := Hcl.out
                          rw [show c - k = (c - (k + 1)) + 1 by omega, Nat.pow_succ]; omega
                        have Hq2 := Lib.hid hq2
                        have Hi2 := Lib.hid hi2
                        have Hl2 := Lib.hid hl2
                        have Hoi := Lib.hid hoi
                        have htake := Lib.hid (show cur.take j = cur from List.take_of_length_le (by omega))
                        rw [htake.out]
                        clear hq2 hi2 hl2 hoi hnx hown
                        go_wp2
                        go_roundw
                        case rel => exact ⟨k, _, by go_num, by omega, Hq2.out, Hi2.out, Hl2.out, Hoi.out.mono hB.size, bnext hB hB2⟩
                        case measure => simp [intOf] <;> omega
          · have hin : allIn zs 0 (n + (c : Int) - 1) = false := by simpa using hin
            have HOK := Lib.hid (show umOk zs rs n = false by simp [umOk, umIn, hcn, hin])
            have HZ := Lib.hid (show umZ zs rs n = [] by simp [umZ, HOK.out])
            rw [HZ.out, HOK.out]
            clear h2 hc hcn
            go_enter Try.func15, Try.ntmps15
            go_wp2_with (first | (go_at_call 24; refine (areSigns_any _ _).mono ?_; rw [hs]; rintro e w' ⟨rfl, rfl⟩) | (go_at_call 34; refine (areWithin_any _ zs _ _ _ h0).mono ?_; rw [hin]; rintro e w' ⟨rfl, rfl⟩))
            go_ret2
            exact ⟨_, rfl, OI.nil _ _, Below.refl _ _⟩
        · have HOK := Lib.hid (show umOk zs rs n = false by simp [umOk, umIn, h64])
          have HZ := Lib.hid (show umZ zs rs n = [] by simp [umZ, HOK.out])
          rw [HZ.out, HOK.out]
          clear h2 hc hcn
          go_enter Try.func15, Try.ntmps15
          go_wp2_with (go_at_call 24; refine (areSigns_any _ _).mono ?_; rw [hs]; rintro e w' ⟨rfl, rfl⟩)
          go_ret2
          exact ⟨_, rfl, OI.nil _ _, Below.refl _ _⟩
      · have d8 : decide (8 < (c : Int)) = true := decide_eq_true (by omega)
        have HOK := Lib.hid (show umOk zs rs n = false by simp [umOk, umIn, hcn, h8])
        have HZ := Lib.hid (show umZ zs rs n = [] by simp [umZ, HOK.out])
        rw [HZ.out, HOK.out]
        clear h2 hc hcn
        go_enter Try.func15, Try.ntmps15
        go_wp2_with (go_at_call 24; refine (areSigns_any _ _).mono ?_; rw [hs]; rintro e w' ⟨rfl, rfl⟩)
        go_ret2
        exact ⟨_, rfl, OI.nil _ _, Below.refl _ _⟩
    · have d2 : (((rs.length : Int) % 2) != 0) = true := by simp; omega
      have HOK := Lib.hid (show umOk zs rs n = false by simp [umOk, umIn, h2])
      have HZ := Lib.hid (show umZ zs rs n = [] by simp [umZ, HOK.out])
      rw [HZ.out, HOK.out]
      clear h2
      go_enter Try.func15, Try.ntmps15
      go_wp2_with (go_at_call 24; refine (areSigns_any _ _).mono ?_; rw [hs]; rintro e w' ⟨rfl, rfl⟩)
      go_ret2
      exact ⟨_, rfl, OI.nil _ _, Below.refl _ _⟩
  · have hs : sgn n = false := by simpa using hs
    have HOK := Lib.hid (show umOk zs rs n = false by simp [umOk, umIn, hs])
    have HZ := Lib.hid (show umZ zs rs n = [] by simp [umZ, HOK.out])
    rw [HZ.out, HOK.out]
    go_enter Try.func15, Try.ntmps15
    go_wp2_with (go_at_call 24; refine (areSigns_any _ _).mono ?_; rw [hs]; rintro e w' ⟨rfl, rfl⟩)
    go_ret2
    exact ⟨_, rfl, OI.nil _ _, Below.refl _ _⟩
end Go.Proofs.Ytjeakgakpioieaa
