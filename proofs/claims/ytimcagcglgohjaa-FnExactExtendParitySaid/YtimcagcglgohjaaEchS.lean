/- Rows in steps: what the reference's loop returns. Conditions: words of at most 16 digits. -/
import Derived.Test.YtimcagcglgohjaaEch
namespace Go.Proofs.Ytimcagcglgohjaa
open Go.RowKit
set_option maxRecDepth 100000
set_option linter.unusedVariables false
set_option linter.unusedSimpArgs false

set_option maxHeartbeats 1000000 in
theorem l06Steps_any (v : Value) (ns : List Nat) (n : Nat) (hn1 : 1 ≤ n) (hn : n ≤ 16) (w : World) (h : Rg eN w v ns) (hl0 : 1 ≤ ns.length) (hl8 : ns.length ≤ 8) (hl : Lt (2 ^ n) ns) :
    Calls Try.prog 24 #[.int .i64 n, v] w fun e w' => ∃ v', e = .returned (.tuple #[v', .int .i64 (echN n ns)]) ∧ Og eN w.heap.size w' v' (echR n ns) ∧ Below w.heap.size w w' := by
  have hi64 : AllI64 (ofN ns) := ofN_i64 hl (Nat.le_trans (Nat.pow_le_pow_right (by decide) hn) (by decide))
  have hl65 : 2 ^ n ≤ 65536 := Nat.le_trans (Nat.pow_le_pow_right (by decide) hn) (by decide)
  have hlr : (ofN ns).length = ns.length := ofN_len ns
  obtain ⟨ao, cap0, rfl, hc1, hc2, -⟩ := h.ofN
  obtain ⟨b0, o0, rfl, -, hcs⟩ := h.ofN.cells (by omega)
  go_enter Try.func24, Try.ntmps24
  go_wp2_with (at_builtin; go_must (refine app_src rfl _ _ rfl w.heap.size w.heap.size (Nat.le_refl _) (.slice (some ⟨w.heap.size, 0, none⟩) 0 0) [] rfl ?_ (w0 := w) (by go_grown) (ofN ns) ⟨b0, o0, none⟩ cap0 rfl ?_ (by simp; omega) (by simp) ?_))
  · exact own_empty w _ (Nat.le_refl _)
  · intro j hj
    rw [Addr.add_lit]
    exact cnext ((Below.refl _ _).alloc (Nat.le_refl _) _) (hcs j hj)
  intro v1 w1 hown hb hg
  have hoN := (hown.oi (by simpa using hi64)).2.toN (fun z hz => by obtain ⟨y, _, rfl⟩ := List.mem_map.1 hz; omega)
  rw [toN_ofN] at hoN
  obtain ⟨g, off, cap, rfl, hob⟩ := hoN.ob (by omega)
  have hcapn := hob.capn
  have hcapm := hob.capm
  have hg1 := hob.hi
  have hcapm' : cap ≤ 9223372036854775807 := by unfold maxLen at hcapm; omega
  have hR := Lib.hid (show ech n ns 0 = (echR n ns, echN n ns) from rfl)
  clear hown hoN hi64 h hcapm hcs hg
  go_wp2
  go_loopw [7, 8] (fun kv iv wr => ∃ (m k : Nat) (ms : List Nat), kv = .int .i64 k ∧ iv = .int .i64 ((m : Int) - 1) ∧ m ≤ n ∧ k ≤ ns.length ∧
      OB eN w.heap.size wr g off ns.length cap ms ∧ Lt (2 ^ n) ms ∧ ech m ms k = (echR n ns, echN n ns) ∧ Below w.heap.size w wr)
    (fun _ iv wr => (intOf iv + 1).toNat)
  case atStart => exact ⟨n, 0, ns, rfl, rfl, Nat.le_refl _, Nat.zero_le _, hob, hl, hR.out, hb⟩
  case round =>
    clear hob
    obtain ⟨m, k, ms, rfl, rfl, hm, hk, hob, hlm, hq, hB⟩ := hrel
    have hml := hob.len
    have Hq := Lib.hid hq
    clear hq
    cases m with
    | zero =>
      go_wp2
      go_ret2
      have h1 := Hq.out
      rw [ech] at h1
      simp only [Prod.mk.injEq] at h1
      exact ⟨_, ret2 rfl (vi (by rw [h1.2])), by rw [← h1.1]; exact hob.og, hB⟩
    | succ m =>
      rw [show (((m + 1 : Nat) : Int) - 1) = (m : Int) by omega]
      have hsl := seek_le m ms k (by omega)
      have hskk := seek_ge m ms k
      go_wp2_with fail
      go_loop [9] (fun av => ∃ a : Nat, av = .int .i64 a ∧ k ≤ a ∧ a ≤ ns.length ∧ seek m ms a = seek m ms k) (fun av => ns.length - (intOf av).toNat)
      case atStart => exact ⟨k, rfl, Nat.le_refl _, hk, rfl⟩
      case round =>
        obtain ⟨a, rfl, hka, hal, hsk⟩ := hrel
        have Hsk := Lib.hid hsk
        clear hsk
        by_cases halt : a < ns.length
        · have hal' : a < ms.length := by omega
          have ca := hob.cell a hal'
          have xa := Nat.lt_of_lt_of_le (hlm.at a hal') hl65
          have han : (a : Int) < (ns.length : Int) := by omega
          by_cases hd : hasD ms[a] m = true
          · have hs0 := seek_here hal' hd
            have hsa : seek m ms k = a := by rw [← Hsk.out]; exact hs0
            have hst : stepE m ms k = (clrF k m ms.length 0 (swp ms k a), k + 1) := by unfold stepE; rw [hsa, if_pos hal']
            have h1 := Hq.out
            rw [ech, hst] at h1
            have hkm : k < ms.length := by omega
            have H1 := Lib.hid h1
            have ck := hob.cell k hkm
            have fk := hob.free k hkm
            have fa := hob.free a hal'
            have hk0 : (0 : Int) ≤ (k : Int) := by omega
            have hkn : (k : Int) < (ns.length : Int) := by omega
            have ha0 : (0 : Int) ≤ (a : Int) := by omega
            have hane : ((a : Int) == (ns.length : Int)) = false := by simp; omega
            obtain ⟨z1, hz1⟩ : ∃ z : Nat, (wr.setCell ⟨g, off + a, none⟩ (eN ms[k])).cell? ⟨g, off + k, none⟩ = some (eN z) := ⟨_, (hob.put a hal' ms[k]).cell k (by simpa using hkm)⟩
            have hob2 := ((hob.put a hal' ms[k]).put k (by simp; omega) ms[a])
            have hswp2 : ((ms.set a ms[k]).set k ms[a]) = swp ms k a := by unfold swp; rw [gt_eq hkm, gt_eq hal']
            rw [hswp2] at hob2
            have hgB := hob.lo
            generalize ms[a] = x at *
            generalize ms[k] = y at *
            have Hob2 := Lib.hid hob2
            clear h1 hst hsa hs0 hsl hob2 hswp2
            go_wp2_with (go_at_call 29; refine (l06Has_any x m xa (by omega) _).mono ?_; rw [hd]; rintro e w' ⟨rfl, rfl⟩)
            clear hob ck ca fk fa hz1
            go_loopw [11] (fun jv wq => ∃ (j : Nat) (qs : List Nat), jv = .int .i64 j ∧ j ≤ ns.length ∧ OB eN w.heap.size wq g off ns.length cap qs ∧ Lt (2 ^ n) qs ∧
              clrF k m (ns.length - j) j qs = clrF k m ms.length 0 (swp ms k a) ∧ Below w.heap.size w wq) (fun jv _ => ns.length - (intOf jv).toNat)
            case atStart => exact ⟨0, swp ms k a, rfl, Nat.zero_le _, Hob2.out, swp_lt hlm, by rw [hml, Nat.sub_zero], (hB.setCell (p := ⟨g, off + a, none⟩) hgB _).setCell (p := ⟨g, off + k, none⟩) hgB _⟩
            case round =>
              obtain ⟨j, qs, rfl, hj, hob, hlq, hcl, hB⟩ := hrel
              have hql := hob.len
              have Hcl := Lib.hid hcl
              clear hcl
              by_cases hjl : j < ns.length
              · have hjq : j < qs.length := by omega
                have hkq : k < qs.length := by omega
                have hst := Hcl.out
                rw [show ns.length - j = (ns.length - (j + 1)) + 1 by omega, clrF, gt_eq hjq, gt_eq hkq] at hst
                have cj := hob.cell j hjq
                have ck := hob.cell k hkq
                have fj := hob.free j hjq
                have xj := Nat.lt_of_lt_of_le (hlq.at j hjq) hl65
                have xk := Nat.lt_of_lt_of_le (hlq.at k hkq) hl65
                have hjn : (j : Int) < (ns.length : Int) := by omega
                have hj0 : (0 : Int) ≤ (j : Int) := by omega
                by_cases hjk : j = k
                · have hnk : ((j : Int) != (k : Int)) = false := by simp [hjk]
                  rw [if_neg (fun h => h.1 hjk)] at hst
                  have Hst := Lib.hid hst
                  clear hst
                  go_wp2
                  go_roundw
                  case rel => exact ⟨j + 1, qs, by go_num, by omega, hob, hlq, Hst.out, hB⟩
                  case measure => simp [intOf] <;> omega
                · have hnk : ((j : Int) != (k : Int)) = true := by simp; omega
                  by_cases hd : hasD qs[j] m = true
                  · rw [if_pos ⟨hjk, hd⟩] at hst
                    have Hst := Lib.hid hst
                    have hput := hob.put j hjq (qs[j] ^^^ qs[k])
                    have hlt' : Lt (2 ^ n) (qs.set j (qs[j] ^^^ qs[k])) := hlq.set j (Nat.xor_lt_two_pow (hlq.at j hjq) (hlq.at k hkq))
                    have Hp := Lib.hid hput
                    have Hl := Lib.hid hlt'
                    have e := xor_i64_nat qs[j] qs[k] (by omega) (by omega)
                    clear hst hput hlt' hlq
                    generalize qs[j] = x at *
                    generalize qs[k] = y at *
                    have hgB := hob.lo
                    clear hob
                    go_wp2_with (go_at_call 29; refine (l06Has_any x m xj (by omega) _).mono ?_; rw [hd]; rintro e w' ⟨rfl, rfl⟩)
                    go_region
                    go_wp2
                    go_roundw
                    case rel => exact ⟨j + 1, _, by go_num, by omega, Hp.out, Hl.out, Hst.out, by first | exact (hB.setCell (p := ⟨g, off + j, none⟩) hgB _) | exact (hB.setCell (p := ⟨g, off + j, none⟩) hgB _).drew⟩
                    case measure => simp [intOf] <;> omega
                  · have hd : hasD qs[j] m = false := by simpa using hd
                    rw [if_neg (fun h => by rw [hd] at h; cases h.2)] at hst
                    have Hst := Lib.hid hst
                    clear hst
                    go_wp2_with (go_at_call 29; refine (l06Has_any qs[j] m xj (by omega) _).mono ?_; rw [hd]; rintro e w' ⟨rfl, rfl⟩)
                    go_roundw
                    case rel => exact ⟨j + 1, qs, by go_num, by omega, hob, hlq, Hst.out, hB⟩
                    case measure => simp [intOf] <;> omega
              · have hst := Hcl.out
                rw [show ns.length - j = 0 by omega, clrF] at hst
                have h1 := H1.out
                rw [← hst] at h1
                have H2 := Lib.hid h1
                clear h1 hst
                go_wp2
                go_roundw
                case rel => exact ⟨m, k + 1, qs, by go_num, by go_num, by omega, by omega, hob, hlq, H2.out, hB⟩
                case measure => simp [intOf] <;> omega
          · have hd : hasD ms[a] m = false := by simpa using hd
            have hs0 := Lib.hid (seek_next hal' hd)
            generalize ms[a] = x at *
            go_wp2_with (go_at_call 29; refine (l06Has_any x m xa (by omega) _).mono ?_; rw [hd]; rintro e w' ⟨rfl, rfl⟩)
            go_round
            case rel => exact ⟨a + 1, by go_num, by omega, by omega, by rw [hs0.out]; exact Hsk.out⟩
            case measure => simp [intOf] <;> omega
        · have hst : stepE m ms k = (ms, k) := by unfold stepE; rw [if_neg (by rw [← Hsk.out, show a = ms.length by omega, seek_end]; omega)]
          have h1 := Hq.out
          rw [ech, hst] at h1
          have H1 := Lib.hid h1
          have han : (a : Int) = (ns.length : Int) := by omega
          have hag : a = ns.length := by omega
          subst hag
          clear h1 hst
          go_wp2
          go_roundw
          case rel => exact ⟨m, k, ms, rfl, by go_num, by omega, hk, hob, hlm, H1.out, hB⟩
          case measure => simp [intOf] <;> omega
end Go.Proofs.Ytimcagcglgohjaa
