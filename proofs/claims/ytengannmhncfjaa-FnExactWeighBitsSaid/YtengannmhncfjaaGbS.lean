/- GuessBits in the reference. No conditions but that the slice reads. -/
import Derived.Test.YtengannmhncfjaaGb
import Derived.Test.YtengannmhncfjaaMk
namespace Go.Proofs.Ytengannmhncfjaa
open Go.RowKit
set_option maxRecDepth 100000
set_option linter.unusedVariables false
set_option linter.unusedSimpArgs false

def cntL (bits : List Bool) (deep : Nat) (b : Bool) (k : Nat) : List Int := (List.range (2 ^ deep)).map fun c => (cnt bits deep c b k : Int)
theorem cntL_len (bits : List Bool) (deep : Nat) (b : Bool) (k : Nat) : (cntL bits deep b k).length = 2 ^ deep := by simp [cntL]
theorem cntL_get (bits : List Bool) (deep : Nat) (b : Bool) (k c : Nat) (h : c < 2 ^ deep) : (cntL bits deep b k)[c]? = some (cnt bits deep c b k : Int) := by
  simp [cntL, h]
theorem cntL_hit (bits : List Bool) (deep : Nat) (b : Bool) (k : Nat) (h : bits.getD k false = b) : cntL bits deep b (k + 1) = (cntL bits deep b k).set (ctxN bits k deep) ((cnt bits deep (ctxN bits k deep) b k : Int) + 1) := by
  refine List.ext_getElem? fun i => ?_
  rw [List.getElem?_set]
  by_cases hi : i < 2 ^ deep
  · rw [cntL_get _ _ _ _ _ hi, cntL_len, cnt]
    by_cases e : ctxN bits k deep = i
    · subst e; rw [if_pos ⟨rfl, h⟩, if_pos rfl, if_pos hi]; simp
    · rw [if_neg e, cntL_get _ _ _ _ _ hi, if_neg (fun hh => e hh.1)]; simp
  · rw [List.getElem?_eq_none (by rw [cntL_len]; omega), if_neg (fun e => by have := ctxN_lt bits k deep; omega), List.getElem?_eq_none (by rw [cntL_len]; omega)]
theorem cntL_miss (bits : List Bool) (deep : Nat) (b : Bool) (k : Nat) (h : bits.getD k false ≠ b) : cntL bits deep b (k + 1) = cntL bits deep b k := by
  unfold cntL
  refine List.map_congr_left fun c _ => ?_
  rw [cnt, if_neg (fun hh => h hh.2)]; simp
theorem cntL_zero (bits : List Bool) (deep : Nat) (b : Bool) : cntL bits deep b 0 = List.replicate (2 ^ deep) 0 := by
  refine List.ext_getElem? fun i => ?_
  by_cases hi : i < 2 ^ deep
  · rw [cntL_get _ _ _ _ _ hi]; simp [hi, cnt]
  · rw [List.getElem?_eq_none (by rw [cntL_len]; omega), List.getElem?_eq_none (by simp; omega)]
def gbV (bits : List Bool) (deep : Int) : Nat := if tld bits deep = true then alW bits deep.toNat bits.length else 0
theorem tld_parts {bits : List Bool} {deep : Int} (h : tld bits deep = true) : bits.length ≤ 1024 ∧ 0 ≤ deep ∧ deep ≤ 4 := by
  simpa [tld, inB] using h
theorem gbV_num (bits : List Bool) (deep : Int) : ∃ q, Num .f32 (gbV bits deep) q := by
  unfold gbV
  split
  · obtain ⟨q, h, -⟩ := al_acc bits deep.toNat bits.length (tld_parts (by assumption)).1
    exact ⟨q, h⟩
  · exact ⟨0, num_zero .f32⟩
theorem pow4 (d : Nat) (h : d ≤ 4) : 1 ≤ 2 ^ d ∧ 2 ^ d ≤ 16 := ⟨Nat.one_le_two_pow, Nat.le_trans (Nat.pow_le_pow_right (by decide) h) (by decide)⟩
theorem wrap_one (d : Nat) (h : d ≤ 4) : wrap64 ((2 : Int) ^ d) = ((2 ^ d : Nat) : Int) := by
  rw [wrap_pow d h]; simp
theorem alW_succ (bits : List Bool) (d k : Nat) : alW bits d (k + 1) = fadd .f32 (alW bits d k) (costW (pcW bits d k)) := rfl
theorem info_intT : (Try.prog.info? 3).map (fun i => (i.zero, i.size, i.bytes)) = some (some (.int .i64 0), 1, 8) := by kernel_rfl
set_option maxHeartbeats 4000000 in
theorem specGb_any (v : Value) (bits : List Bool) (deep : Int) (w : World) (h : Rg Value.bool w v bits) :
    Calls Try.prog 5 #[v, .int .i64 deep] w fun e w' => e = .returned (.tuple #[.float .f32 (gbV bits deep), .bool (tld bits deep)]) ∧ Below w.heap.size w w' := by
  cases ht : tld bits deep
  · have hv : gbV bits deep = 0 := by simp [gbV, ht]
    rw [hv]
    go_enter Try.func5, Try.ntmps5
    go_wp2_with (go_at_call 12; refine (l05Bool_any _ bits _ _ h).mono ?_; rw [ht]; rintro e w' ⟨rfl, rfl⟩)
    go_ret2
    exact ⟨rfl, Below.refl _ _⟩
  · obtain ⟨hl, hd0, hd4⟩ := tld_parts ht
    obtain ⟨d, rfl⟩ := Int.eq_ofNat_of_zero_le hd0
    have hd4' : d ≤ 4 := by omega
    have hv := Lib.hid (show gbV bits d = alW bits d bits.length by simp [gbV, ht])
    obtain ⟨hp1, hp16⟩ := pow4 d hd4'
    have hw := wrap_one d hd4'
    obtain ⟨i0, hi, hz0, hz1, hz2⟩ := info_parts info_intT
    have hR := Lib.hid h
    have hlen := h.len
    obtain ⟨ao, cap, rfl, k1, k2, k3⟩ := h
    obtain ⟨w1, hr1, hob1, hg1, hs1⟩ := run_mk (enc := Value.int .i64) w 31 3 i0 (0 : Int) Try.underlying31 hi hz0 hz1 rfl (2 ^ d) (by omega) (by rw [hz2]; omega) (by unfold maxLen; omega)
    obtain ⟨w2, hr2, hob2, hg2, hs2⟩ := run_mk (enc := Value.int .i64) w1 31 3 i0 (0 : Int) Try.underlying31 hi hz0 hz1 rfl (2 ^ d) (by omega) (by rw [hz2]; omega) (by unfold maxLen; omega)
    rw [show ((2 ^ d : Nat) : Int) = (2 : Int) ^ d by simp] at hr1 hr2
    have hB1 := grow_below hg1
    have hB2 := grow_below hg2
    have hZ := hob1.below hB2
    have hB := bnext hB1 hB2
    rw [hs1] at hob2
    rw [← cntL_zero bits d false] at hZ
    rw [← cntL_zero bits d true] at hob2
    go_enter Try.func5, Try.ntmps5
    go_wp2_with (first | (go_at_call 12; refine (l05Bool_any _ bits _ _ hR.out).mono ?_; rw [ht]; rintro e w' ⟨rfl, rfl⟩) | simp only [hr1, hr2])
    have Hw := Lib.hid hw
    clear hr1 hr2 hob1 hg1 hg2 hB1 hB2 hi hz0 hz1 hz2 ht hw
    go_loopw [8, 23] (fun s i wr => ∃ k : Nat, k ≤ bits.length ∧ i = .int .i64 k ∧ s = .float .f32 (alW bits d k) ∧ OB (Value.int .i64) w.heap.size wr w.heap.size 0 (2 ^ d) (2 ^ d) (cntL bits d false k) ∧ OB (Value.int .i64) (w.heap.size + 1) wr (w.heap.size + 1) 0 (2 ^ d) (2 ^ d) (cntL bits d true k) ∧ Below w.heap.size w wr) (fun _ i _ => bits.length - (intOf i).toNat)
    case atStart => exact ⟨0, Nat.zero_le _, rfl, rfl, hZ, hob2, hB⟩
    case round =>
      clear hZ hob2 hB
      obtain ⟨k, hk, rfl, rfl, hZ, hO, hB⟩ := hrel
      by_cases hlt : k < bits.length
      · obtain ⟨bt, offt, rfl, hct⟩ := k3 k hlt
        have hctr := cnext hB hct
        have hgD : bits.getD k false = bits[k] := by simp [List.getD, hlt]
        rw [← hgD] at hctr
        have hcx := ctxN_lt bits k d
        have cZ : wr.cell? ⟨w.heap.size, 0 + ctxN bits k d, none⟩ = some (.int .i64 (cnt bits d (ctxN bits k d) false k)) := by
          have := hZ.cell (ctxN bits k d) (by rw [cntL_len]; exact hcx)
          rw [this]; congr 2; simpa using (List.getElem?_eq_some_iff.1 (cntL_get bits d false k _ hcx)).2
        have cO : wr.cell? ⟨w.heap.size + 1, 0 + ctxN bits k d, none⟩ = some (.int .i64 (cnt bits d (ctxN bits k d) true k)) := by
          have := hO.cell (ctxN bits k d) (by rw [cntL_len]; exact hcx)
          rw [this]; congr 2; simpa using (List.getElem?_eq_some_iff.1 (cntL_get bits d true k _ hcx)).2
        have fZ := hZ.free (ctxN bits k d) (by rw [cntL_len]; exact hcx)
        have fO := hO.free (ctxN bits k d) (by rw [cntL_len]; exact hcx)
        rw [Nat.zero_add] at cZ cO fZ fO
        have hcn := cnt_le bits d (ctxN bits k d) k
        obtain ⟨a, ra, ra0, -⟩ := pc_num bits d k (by omega)
        have g1 := al_step bits d k (by omega)
        have g2 := (cost_num ra ra0).1
        have hpc : pcW bits d k = chW (if bits.getD k false = true then cnt bits d (ctxN bits k d) true k else cnt bits d (ctxN bits k d) false k) (cnt bits d (ctxN bits k d) false k + cnt bits d (ctxN bits k d) true k + 1) := by
          unfold pcW; cases bits.getD k false <;> rfl
        have hctx := l05Context_any _ bits k d wr (hR.out.below hB) hk hd4'
        have hch := l05Chance_any (cnt bits d (ctxN bits k d) false k) (cnt bits d (ctxN bits k d) true k) (bits.getD k false)
        rw [← hpc] at hch
        have hhit := And.intro (cntL_hit bits d false k) (cntL_hit bits d true k)
        have hmiss : (bits.getD k false = true → cntL bits d false (k + 1) = cntL bits d false k) ∧ (bits.getD k false = false → cntL bits d true (k + 1) = cntL bits d true k) := ⟨fun h => cntL_miss bits d false k (by rw [h]; simp), fun h => cntL_miss bits d true k (by rw [h]; simp)⟩
        have hac := alW_succ bits d k
        have HZ := Lib.hid (And.intro hZ hO)
        have hlz := cntL_len bits d false k
        have hlo := cntL_len bits d true k
        clear hpc hct k3 hgD hZ hO
        generalize cnt bits d (ctxN bits k d) false k = z at *
        generalize cnt bits d (ctxN bits k d) true k = y at *
        generalize ctxN bits k d = c at *
        generalize bits.getD k false = b at *
        have Hhit := Lib.hid (And.intro hhit hmiss)
        have Hch := Lib.hid hch
        have Hra := Lib.hid ra
        have Hra0 := Lib.hid ra0
        have HB := Lib.hid hB
        clear hhit hmiss hch ra ra0 hB hac
        have o0 := run_neg (P := Try.prog)
        have o1 := run_op (P := Try.prog) g1
        have o2 := run_op (P := Try.prog) g2
        clear g1 g2
        go_wp2_with (go_at_call 13; refine hctx.mono ?_; rintro e w' ⟨rfl, rfl⟩)
        go_quiet ((first | (go_at_call 15; exact Calls.quiet_of (qi (Hch.out _ (by omega)))) | (go_at_call 14; exact Calls.quiet_of (qi (l01Log_any _ a Hra.out Hra0.out _)))))
        have hB' := bnext HB.out (below_drewN wr nq)
        obtain ⟨hZ, hO⟩ := HZ.out
        have hZ' := hZ.below (below_drewN wr nq)
        have hO' := hO.below (below_drewN wr nq)
        have cz : (wr.drewN nq).cell? ⟨w.heap.size, c, none⟩ = some (.int .i64 z) := cZ
        have co : (wr.drewN nq).cell? ⟨w.heap.size + 1, c, none⟩ = some (.int .i64 y) := cO
        have fz : (wr.drewN nq).frozen? ⟨w.heap.size, c, none⟩ = false := fZ
        have fo : (wr.drewN nq).frozen? ⟨w.heap.size + 1, c, none⟩ = false := fO
        have ct : (wr.drewN nq).cell? ⟨bt, offt + k, none⟩ = some (.bool b) := hctr
        clear hZ hO cZ cO fZ fO hctr HB HZ
        generalize wr.drewN nq = W at *
        cases b
        · have hput := hZ'.put c (by rw [hlz]; exact hcx) ((z : Int) + 1)
          have hfar := hO'.far ⟨w.heap.size, c, none⟩ (.int .i64 ((z : Int) + 1)) (by simp)
          have hBs := hB'.setCell (p := ⟨w.heap.size, c, none⟩) (Nat.le_refl _) (.int .i64 ((z : Int) + 1))
          rw [Nat.zero_add] at hput
          rw [← Hhit.out.1.1 rfl] at hput
          rw [← Hhit.out.2.2 rfl] at hfar
          have Hput := Lib.hid (And.intro hput (And.intro hfar hBs))
          clear hput hfar hBs hZ' hO' hB' Hhit
          go_wp2
          go_roundw
          case rel => exact ⟨k + 1, by omega, by go_num, rfl, Hput.out⟩
          case measure => simp [intOf]; omega
        · have hput := hO'.put c (by rw [hlo]; exact hcx) ((y : Int) + 1)
          have hfar := hZ'.far ⟨w.heap.size + 1, c, none⟩ (.int .i64 ((y : Int) + 1)) (by simp)
          have hBs := hB'.setCell (p := ⟨w.heap.size + 1, c, none⟩) (Nat.le_succ _) (.int .i64 ((y : Int) + 1))
          rw [Nat.zero_add] at hput
          rw [← Hhit.out.1.2 rfl] at hput
          rw [← Hhit.out.2.1 rfl] at hfar
          have Hput := Lib.hid (And.intro hput (And.intro hfar hBs))
          clear hput hfar hBs hZ' hO' hB' Hhit
          go_wp2
          go_roundw
          case rel => exact ⟨k + 1, by omega, by go_num, rfl, Hput.out.2.1, Hput.out.1, Hput.out.2.2⟩
          case measure => simp [intOf]; omega
      · obtain rfl : k = bits.length := by omega
        obtain ⟨sq, hsq, -⟩ := al_acc bits d bits.length hl
        have hf := fin_num hsq
        have hnb : nbV (alW bits d bits.length) = alW bits d bits.length := by unfold nbV; rw [hf]; rfl
        clear k3 hZ hO
        go_wp2_with (go_at_call 16; refine (number_any _ _).mono ?_; rw [hf, hnb]; rintro e w' ⟨rfl, n', rfl⟩)
        go_ret2
        exact ⟨by rw [hv.out]; rfl, bnext hB (below_drewN _ _)⟩
end Go.Proofs.Ytengannmhncfjaa
