/- Rows in steps: what the loops of both packages return. Conditions: words of at most 16 digits. -/
import Derived.Test.YtimcagcglgohjaaEchP
import Derived.Test.YtimcagcglgohjaaClone
import Derived.StillTailTactics
import Derived.Deep.RegionWith
namespace Go.Proofs.Ytimcagcglgohjaa
open Go.RowKit
set_option maxRecDepth 100000
set_option linter.unusedVariables false
set_option linter.unusedSimpArgs false

theorem hasD_i64 (x i : Nat) (hx : x < 65536) : (bits .and .i64 ((x : Int) / 2 ^ i) 1 == 1) = hasD x i := by
  have e : ((x : Int) / 2 ^ i) = ((x / 2 ^ i : Nat) : Int) := by rw [Int.natCast_ediv]; simp
  have hl : x / 2 ^ i ≤ x := Nat.div_le_self _ _
  rw [e, show (1 : Int) = ((1 : Nat) : Int) from rfl, and_i64_nat _ _ (by omega) (by decide), Nat.and_one_is_mod]
  unfold hasD
  rw [Bool.eq_iff_iff]; simp; omega
set_option maxHeartbeats 400000 in
theorem hasDigit_any (x i : Nat) (hx : x < 65536) (hi : i ≤ 62) (w : World) :
    Calls Try.prog 33 #[.int .i64 x, .int .i64 i] w fun e w' => e = .returned (.bool (hasD x i)) ∧ w = w' := by
  have H := Lib.hid (hasD_i64 x i hx)
  go_enter Try.func33, Try.ntmps33
  go_wp2
  go_ret
  exact ⟨ret_bool H.out, rfl⟩
set_option maxHeartbeats 400000 in
theorem l06Has_any (x i : Nat) (hx : x < 65536) (hi : i ≤ 62) (w : World) :
    Calls Try.prog 29 #[.int .i64 x, .int .i64 i] w fun e w' => e = .returned (.bool (hasD x i)) ∧ w = w' := by
  have H := Lib.hid (hasD_i64 x i hx)
  go_enter Try.func29, Try.ntmps29
  go_wp2
  go_ret
  exact ⟨ret_bool H.out, rfl⟩
set_option maxHeartbeats 400000 in
theorem echelon1_any (x i B : Nat) (hx : x < 65536) (hi : i ≤ 62) (w : World) (hc : w.cell? ⟨B, 0, none⟩ = some (.int .i64 i)) :
    Calls Try.prog 32 #[.int .i64 x, .pointer (some ⟨B, 0, none⟩)] w fun e w' => e = .returned (.bool (hasD x i)) ∧ w = w' := by
  go_enter Try.func32, Try.ntmps32
  go_wp2_with (go_at_call 33; refine (hasDigit_any x i hx hi _).mono ?_; rintro e w' ⟨rfl, rfl⟩)
  go_ret
  exact ⟨rfl, rfl⟩
def idx (i : Nat) (ns : List Nat) : Int := if seek i ns 0 < ns.length then ((seek i ns 0 : Nat) : Int) else -1
set_option maxHeartbeats 400000 in
theorem indexFunc_any (v : Value) (ns : List Nat) (B i : Nat) (hi : i ≤ 62) (w : World) (h : Rg eN w v ns) (hl : Lt 65536 ns) (hc : w.cell? ⟨B, 0, none⟩ = some (.int .i64 i)) :
    Calls Try.prog 31 #[v, .func (.func 32) #[] #[.pointer (some ⟨B, 0, none⟩)]] w fun e w' => e = .returned (.int .i64 (idx i ns)) ∧ w = w' := by
  have hlen := h.len
  obtain ⟨ao, cap, rfl, h1, h2, h3⟩ := h
  go_enter Try.func31, Try.ntmps31
  go_wp2
  go_loop [8] (fun c => ∃ k : Nat, k ≤ ns.length ∧ c = .int .i64 k ∧ seek i ns k = seek i ns 0) (fun c => ns.length - (intOf c).toNat)
  case atStart => exact ⟨0, Nat.zero_le _, rfl, rfl⟩
  case round =>
    obtain ⟨k, hk, rfl, hq⟩ := hrel
    have Hq := Lib.hid hq; clear hq
    by_cases hlt : k < ns.length
    · obtain ⟨b, off, rfl, hcl⟩ := h3 k hlt
      have hx := hl.at k hlt
      by_cases hd : hasD ns[k] i = true
      · have Hs := Lib.hid (seek_here hlt hd)
        have Hk := Lib.hid hlt
        clear h3 hl
        generalize ns[k] = x at *
        go_wp2_with (go_at_call 32; refine (echelon1_any x i B hx hi _ hc).mono ?_; rw [hd]; rintro e w' ⟨rfl, rfl⟩)
        go_ret
        exact ⟨ret_i64 (by rw [idx, ← Hq.out, Hs.out, if_pos Hk.out]), rfl⟩
      · have hd : hasD ns[k] i = false := by simpa using hd
        have Hs := Lib.hid (seek_next hlt hd)
        clear h3 hl
        generalize ns[k] = x at *
        go_wp2_with (go_at_call 32; refine (echelon1_any x i B hx hi _ hc).mono ?_; rw [hd]; rintro e w' ⟨rfl, rfl⟩)
        go_round
        case rel => exact ⟨k + 1, by omega, by go_num, by rw [Hs.out]; exact Hq.out⟩
        case measure => simp [intOf]; omega
    · go_wp2
      go_ret
      exact ⟨ret_i64 (by rw [idx, ← Hq.out, show k = ns.length by omega, seek_end, if_neg (by omega)]), rfl⟩
set_option maxHeartbeats 1000000 in
theorem echelon_any (v : Value) (ns : List Nat) (n : Nat) (hn1 : 1 ≤ n) (hn : n ≤ 16) (w : World) (h : Rg eN w v ns) (hl0 : 1 ≤ ns.length) (hl8 : ns.length ≤ 8) (hl : Lt (2 ^ n) ns) :
    Calls Try.prog 27 #[.int .i64 n, v] w fun e w' => ∃ v', e = .returned (.tuple #[v', .int .i64 (echN n ns)]) ∧ Og eN w.heap.size w' v' (echR n ns) ∧ Below w.heap.size w w' := by
  have hi64 : AllI64 (ofN ns) := ofN_i64 hl (Nat.le_trans (Nat.pow_le_pow_right (by decide) hn) (by decide))
  go_enter Try.func27, Try.ntmps27
  go_wp2_with fail
  refine (clone_any v (ofN ns) _ ⟨hi64, h.ofN⟩ (by rw [ofN_len]; omega)).mono ?_
  rintro e w1 ⟨v1, rfl, ho, hb⟩
  have hlr : (ofN ns).length = ns.length := ofN_len ns
  have hoN := ho.2.toN (fun z hz => by obtain ⟨y, _, rfl⟩ := List.mem_map.1 hz; omega)
  rw [toN_ofN] at hoN
  obtain ⟨g, off, cap, rfl, hob⟩ := hoN.ob (by omega)
  have hcapn := hob.capn
  have hcapm := hob.capm
  have hg1 := hob.hi
  have hcapm' : cap ≤ 9223372036854775807 := by unfold maxLen at hcapm; omega
  have hR := Lib.hid (show ech n ns 0 = (echR n ns, echN n ns) from rfl)
  have hRl := echR_len n ns
  clear ho hoN hi64 h hcapm
  go_wp2
  go_loopw [7, 8] (fun kv p wr => ∃ (m k Bi : Nat) (ms : List Nat), kv = .int .i64 k ∧ p = .pointer (some ⟨Bi, 0, none⟩) ∧ wr.heap[Bi]? = some (.cells #[.int .i64 ((m : Int) - 1)] 2 (0, 0)) ∧ w1.heap.size ≤ Bi ∧ m ≤ n ∧ k ≤ ns.length ∧
      OB eN w.heap.size wr g off ns.length cap ms ∧ Lt (2 ^ n) ms ∧ ech m ms k = (echR n ns, echN n ns) ∧ Below w.heap.size w wr)
    (fun _ p wr => match p with | .pointer (some a) => (intOf ((wr.cell? a).getD (.int .i64 0)) + 1).toNat | _ => 0)
  case atStart => exact ⟨n, 0, w1.heap.size, ns, rfl, rfl, heap_alloc_new w1 _, Nat.le_refl _, Nat.le_refl _, Nat.zero_le _, hob.below ((Below.refl _ _).alloc (Nat.le_refl _) _), hl, hR.out, hb.alloc hb.size _⟩
  case round =>
    obtain ⟨m, k, Bi, ms, rfl, rfl, hBi, hBi1, hm, hk, hob, hlm, hq, hB⟩ := hrel
    obtain ⟨c0, f0⟩ := blk1 hBi
    have hBl := blk_lt hBi
    have hml := hob.len
    have Hq := Lib.hid hq
    clear hq
    cases m with
    | zero =>
      go_wp2
      go_ret2
      have h1 := Hq.out
      rw [ech] at h1
      simp only [Prod.mk.injEq] at h1
      exact ⟨_, ret2 rfl (vi (by rw [h1.2])), by rw [← h1.1]; exact hob.og, hB⟩
    | succ m =>
      rw [show (((m + 1 : Nat) : Int) - 1) = (m : Int) by omega] at c0 hBi
      by_cases hkl : k < ns.length
      · have hsd := seek_drop m ms k
        have hsl := seek_le m ms k (by omega)
        have hrg : Rg eN wr (.slice (some ⟨g, off + k, none⟩) (ns.length - k) (cap - k)) (ms.drop k) := by
          obtain ⟨b, o, e, hr⟩ := hob.og.rg.drop k (by omega)
          simp only [Option.some.injEq, Addr.mk.injEq, and_true] at e
          obtain ⟨rfl, rfl⟩ := e; exact hr
        have hll := Lib.hid (fun x hx => Nat.lt_of_lt_of_le (hlm x (List.mem_of_mem_drop hx)) (Nat.pow_le_pow_right (by decide) hn) : Lt 65536 (ms.drop k))
        have hkc : k < cap := by omega
        have hkn : (k : Int) < (ns.length : Int) := by omega
        have hk0 : (0 : Int) ≤ (k : Int) := by omega
        by_cases hs : seek m ms k < ms.length
        · have hix : idx m (ms.drop k) = ((seek m (ms.drop k) 0 : Nat) : Int) := by unfold idx; rw [if_pos (by rw [List.length_drop]; omega)]
          have hst : stepE m ms k = (clrF k m ms.length 0 (swp ms k (seek m ms k)), k + 1) := by unfold stepE; rw [if_pos hs]
          have h1 := Hq.out
          rw [ech, hst, hsd] at h1
          have hsk : k + seek m (ms.drop k) 0 < ms.length := by omega
          generalize seek m (ms.drop k) 0 = d at *
          have H1 := Lib.hid h1
          have Hix := Lib.hid hix
          have ck := hob.cell k (by omega)
          have cd := hob.cell (k + d) hsk
          have fk := hob.free k (by omega)
          have fd := hob.free (k + d) hsk
          have Hek := Lib.hid (gt_eq (show k < ms.length by omega))
          have Hed := Lib.hid (gt_eq hsk)
          have hkd : (k : Int) + (d : Int) < (ns.length : Int) := by omega
          have hd0 : (0 : Int) ≤ (k : Int) + (d : Int) := by omega
          obtain ⟨z1, hz1⟩ : ∃ z : Nat, (wr.setCell ⟨g, off + k, none⟩ (eN ms[k + d])).cell? ⟨g, off + (k + d), none⟩ = some (eN z) := ⟨_, (hob.put k (by omega) ms[k + d]).cell (k + d) (by simpa using hsk)⟩
          obtain ⟨z2, hz2⟩ : ∃ z : Nat, (wr.setCell ⟨g, off + (k + d), none⟩ (eN ms[k])).cell? ⟨g, off + k, none⟩ = some (eN z) := ⟨_, (hob.put (k + d) hsk ms[k]).cell k (by simp; omega)⟩
          have hob1 := ((hob.put k (by omega) ms[k + d]).put (k + d) (by simpa using hsk) ms[k])
          have hob2 := ((hob.put (k + d) hsk ms[k]).put k (by simp; omega) ms[k + d])
          have hswp : ((ms.set k ms[k + d]).set (k + d) ms[k]) = swp ms k (k + d) := by rw [← swp_comm, gt_eq (show k < ms.length by omega), gt_eq hsk]
          have hswp2 : ((ms.set (k + d) ms[k]).set k ms[k + d]) = swp ms k (k + d) := by unfold swp; rw [gt_eq (show k < ms.length by omega), gt_eq hsk]
          rw [hswp] at hob1
          rw [hswp2] at hob2
          have hne : g ≠ Bi := by omega
          have hgB := hob.lo
          generalize ms[k + d] = y at *
          generalize ms[k] = x at *
          have Hob1 := Lib.hid hob1
          have Hob2 := Lib.hid hob2
          clear h1 hix hst hsd hsl hob1 hob2 hswp hswp2 hs
          go_wp2_with (go_at_call 31; refine (indexFunc_any _ (ms.drop k) Bi m (by omega) _ hrg hll.out c0).mono ?_; rw [Hix.out]; rintro e w' ⟨rfl, rfl⟩)
          go_region
          go_wp2
          have hl65 : 2 ^ n ≤ 65536 := Nat.le_trans (Nat.pow_le_pow_right (by decide) hn) (by decide)
          have hg2 := hob.hi
          have C0 := Lib.hid c0
          clear hob ck cd fk fd hz1 hz2 hrg hll c0 f0
          go_loopw [52] (fun jv wq => ∃ (j : Nat) (qs : List Nat), jv = .int .i64 j ∧ j ≤ ns.length ∧ wq.heap[Bi]? = some (.cells #[.int .i64 (m : Int)] 2 (0, 0)) ∧ OB eN w.heap.size wq g off ns.length cap qs ∧ Lt (2 ^ n) qs ∧
              clrF k m (ns.length - j) j qs = clrF k m ms.length 0 (swp ms k (k + d)) ∧ Below w.heap.size w wq) (fun jv _ => ns.length - (intOf jv).toNat)
          case atStart => exact ⟨0, swp ms k (k + d), rfl, Nat.zero_le _, (blk_other (by simpa using hne) (blk_other (by simpa using hne) hBi)), Hob1.out, swp_lt hlm, by rw [hml, Nat.sub_zero], ((hB.setCell (p := ⟨g, off + k, none⟩) hgB _).setCell (p := ⟨g, off + (k + d), none⟩) hgB _).drew⟩
          case round =>
            obtain ⟨j, qs, rfl, hj, hBi, hob, hlq, hcl, hB⟩ := hrel
            obtain ⟨c0, f0⟩ := blk1 hBi
            have hql := hob.len
            have Hcl := Lib.hid hcl
            clear hcl
            by_cases hjl : j < ns.length
            · have hjq : j < qs.length := by omega
              have hkq : k < qs.length := by omega
              have hst := Hcl.out
              rw [show ns.length - j = (ns.length - (j + 1)) + 1 by omega, clrF, gt_eq hjq, gt_eq hkq] at hst
              have cj := hob.cell j hjq
              have ck := hob.cell k hkq
              have fj := hob.free j hjq
              have xj := Nat.lt_of_lt_of_le (hlq.at j hjq) hl65
              have xk := Nat.lt_of_lt_of_le (hlq.at k hkq) hl65
              have hjn : (j : Int) < (ns.length : Int) := by omega
              have hj0 : (0 : Int) ≤ (j : Int) := by omega
              by_cases hjk : j = k
              · have hnk : ((j : Int) != (k : Int)) = false := by simp [hjk]
                rw [if_neg (fun h => h.1 hjk)] at hst
                have Hst := Lib.hid hst
                clear hst
                go_wp2_with fail
                go_quiet (fail)
                go_wp2
                go_roundw
                case rel => exact ⟨j + 1, qs, by go_num, by omega, hBi, hob, hlq, Hst.out, bnext hB (below_drewN _ _)⟩
                case measure => simp [intOf]; omega
              · have hnk : ((j : Int) != (k : Int)) = true := by simp; omega
                by_cases hd : hasD qs[j] m = true
                · rw [if_pos ⟨hjk, hd⟩] at hst
                  have Hst := Lib.hid hst
                  have hput := hob.put j hjq (qs[j] ^^^ qs[k])
                  have hlt' : Lt (2 ^ n) (qs.set j (qs[j] ^^^ qs[k])) := hlq.set j (Nat.xor_lt_two_pow (hlq.at j hjq) (hlq.at k hkq))
                  have Hp := Lib.hid hput
                  have Hl := Lib.hid hlt'
                  have e := xor_i64_nat qs[j] qs[k] (by omega) (by omega)
                  clear hst hput hlt' hlq
                  generalize qs[j] = x at *
                  generalize qs[k] = y at *
                  have hgB := hob.lo
                  clear hob
                  go_wp2_with fail
                  go_quiet ((go_at_call 33; exact Calls.quiet_of (qv hd (hasDigit_any x m xj (by omega) _))))
                  go_wp2
                  go_region
                  go_wp2
                  go_roundw
                  case rel => exact ⟨j + 1, _, by go_num, by omega, blk_other (by simpa using hne) hBi, Hp.out, Hl.out, Hst.out, by first | exact (hB.setCell (p := ⟨g, off + j, none⟩) hgB _) | exact bnext (hB.setCell (p := ⟨g, off + j, none⟩) hgB _) (below_drewN _ _) | exact (bnext (hB.setCell (p := ⟨g, off + j, none⟩) hgB _) (below_drewN _ _)).drew | exact (hB.setCell (p := ⟨g, off + j, none⟩) hgB _).drew | exact ((bnext hB (below_drewN _ _)).setCell (p := ⟨g, off + j, none⟩) hgB _).drew⟩
                  case measure => simp [intOf]; omega
                · have hd : hasD qs[j] m = false := by simpa using hd
                  rw [if_neg (fun h => by rw [hd] at h; cases h.2)] at hst
                  have Hst := Lib.hid hst
                  clear hst
                  go_wp2_with fail
                  go_quiet ((go_at_call 33; exact Calls.quiet_of (qv hd (hasDigit_any qs[j] m xj (by omega) _))))
                  go_wp2
                  go_roundw
                  case rel => exact ⟨j + 1, qs, by go_num, by omega, hBi, hob, hlq, Hst.out, bnext hB (below_drewN _ _)⟩
                  case measure => simp [intOf]; omega
            · have hst := Hcl.out
              rw [show ns.length - j = 0 by omega, clrF] at hst
              have h1 := H1.out
              rw [← hst] at h1
              have H2 := Lib.hid h1
              clear h1 hst
              go_wp2
              go_roundw
              case rel => exact ⟨m, k + 1, wr.heap.size, qs, by go_num, rfl, heap_alloc_new wr _, by have := hB.size; have := hb.size; have := blk_lt hBi; omega, by omega, by omega, hob.below ((Below.refl _ _).alloc (Nat.le_refl _) _), hlq, H2.out, hB.alloc hB.size _⟩
              case measure => have c1 := C0.out; simp [intOf, go_sem, c1]
        · have hix : idx m (ms.drop k) = -1 := by unfold idx; rw [if_neg (by rw [List.length_drop]; omega)]
          have hst : stepE m ms k = (ms, k) := by unfold stepE; rw [if_neg hs]
          have h1 := Hq.out
          rw [ech, hst] at h1
          have H1 := Lib.hid h1
          have Hix := Lib.hid hix
          clear h1 hix hst hsd hsl
          go_wp2_with (go_at_call 31; refine (indexFunc_any _ (ms.drop k) Bi m (by omega) _ hrg hll.out c0).mono ?_; rw [Hix.out]; rintro e w' ⟨rfl, rfl⟩)
          go_roundw
          case rel => exact ⟨m, k, wr.heap.size, ms, rfl, rfl, heap_alloc_new wr _, by omega, by omega, hk, hob.below ((Below.refl _ _).alloc (Nat.le_refl _) _), hlm, H1.out, hB.alloc hB.size _⟩
          case measure => simp [intOf, go_sem, c0]
      · have hkk : k = ms.length := by omega
        have h1 := Hq.out
        rw [hkk, ech_all] at h1
        simp only [Prod.mk.injEq] at h1
        go_wp2
        go_ret2
        exact ⟨_, ret2 rfl (vi (by rw [hkk, h1.2])), by rw [← h1.1]; exact hob.og, hB⟩
end Go.Proofs.Ytimcagcglgohjaa
