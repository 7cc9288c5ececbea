/- logSums and GuessBits in the program. Conditions: at most 1024 bits, depths from 0 to 4. -/
import Derived.Test.YthafmldcfdcngaaEF
import Derived.Test.YthafmldcfdcngaaGbS
import Derived.Test.YthafmldcfdcngaaPop
import Derived.Deep.DeepCutAuto
import Derived.Laws.Entries
namespace Go.Proofs.Ythafmldcfdcngaa
open Go.RowKit
set_option maxRecDepth 100000
set_option linter.unusedVariables false
set_option linter.unusedSimpArgs false

/-- The counts of all contexts, two for each. -/
def prL (bits : List Bool) (d k : Nat) : List Int := (List.range (2 * 2 ^ d)).map fun i => (cnt bits d (i / 2) (i % 2 == 1) k : Int)
theorem prL_len (bits : List Bool) (d k : Nat) : (prL bits d k).length = 2 * 2 ^ d := by simp [prL]
theorem prL_get (bits : List Bool) (d k i : Nat) (h : i < 2 * 2 ^ d) : (prL bits d k)[i]? = some (cnt bits d (i / 2) (i % 2 == 1) k : Int) := by simp [prL, h]
theorem prL_zero (bits : List Bool) (d : Nat) : prL bits d 0 = List.replicate (2 * 2 ^ d) 0 := by
  refine List.ext_getElem? fun i => ?_
  by_cases hi : i < 2 * 2 ^ d
  · rw [prL_get _ _ _ _ hi]; simp [hi, cnt]
  · rw [List.getElem?_eq_none (by rw [prL_len]; omega), List.getElem?_eq_none (by simp; omega)]
def bN (b : Bool) : Nat := if b then 1 else 0
theorem bN_le (b : Bool) : bN b ≤ 1 := by cases b <;> decide
theorem prL_step (bits : List Bool) (d k : Nat) : prL bits d (k + 1) = (prL bits d k).set (ctxN bits k d * 2 + bN (bits.getD k false)) ((cnt bits d (ctxN bits k d) (bits.getD k false) k : Int) + 1) := by
  have hc := ctxN_lt bits k d
  refine List.ext_getElem? fun i => ?_
  rw [List.getElem?_set]
  by_cases hi : i < 2 * 2 ^ d
  · rw [prL_get _ _ _ _ hi, prL_len, cnt]
    by_cases e : ctxN bits k d * 2 + bN (bits.getD k false) = i
    · have e1 : i / 2 = ctxN bits k d := by rw [← e]; cases bits.getD k false <;> simp [bN] <;> omega
      have e2 : (i % 2 == 1) = bits.getD k false := by
        rw [← e]; cases bits.getD k false <;> simp [bN] <;> omega
      rw [e1, e2, if_pos ⟨rfl, rfl⟩, if_pos e, if_pos (by omega)]; simp
    · rw [if_neg e, prL_get _ _ _ _ hi, if_neg]
      · simp
      · rintro ⟨h1, h2⟩
        refine e ?_
        rw [h1, h2]
        have := Nat.mod_two_eq_zero_or_one i
        rcases this with h | h <;> rw [h] <;> simp [bN] <;> omega
  · rw [List.getElem?_eq_none (by rw [prL_len]; omega), if_neg (fun e => by have := bN_le (bits.getD k false); omega), List.getElem?_eq_none (by rw [prL_len]; omega)]
/-- The sums of all contexts. -/
def smL (bits : List Bool) (d k : Nat) : List Nat := (List.range (2 ^ d)).map fun c => smW bits d c k
theorem smL_len (bits : List Bool) (d k : Nat) : (smL bits d k).length = 2 ^ d := by simp [smL]
theorem smL_get (bits : List Bool) (d k c : Nat) (h : c < 2 ^ d) : (smL bits d k)[c]? = some (smW bits d c k) := by simp [smL, h]
theorem smL_zero (bits : List Bool) (d : Nat) : smL bits d 0 = List.replicate (2 ^ d) 0 := by
  refine List.ext_getElem? fun i => ?_
  by_cases hi : i < 2 ^ d
  · rw [smL_get _ _ _ _ hi]; simp [hi, smW]
  · rw [List.getElem?_eq_none (by rw [smL_len]; omega), List.getElem?_eq_none (by simp; omega)]
theorem smL_step (bits : List Bool) (d k : Nat) : smL bits d (k + 1) = (smL bits d k).set (ctxN bits k d) (fadd .f32 (smW bits d (ctxN bits k d) k) (LOG (pcW bits d k))) := by
  have hc := ctxN_lt bits k d
  refine List.ext_getElem? fun i => ?_
  rw [List.getElem?_set]
  by_cases hi : i < 2 ^ d
  · rw [smL_get _ _ _ _ hi, smL_len, smW]
    by_cases e : ctxN bits k d = i
    · subst e; rw [if_pos rfl, if_pos rfl, if_pos hi]
    · rw [if_neg e, if_neg e, smL_get _ _ _ _ hi]
  · rw [List.getElem?_eq_none (by rw [smL_len]; omega), if_neg (fun e => by omega), List.getElem?_eq_none (by rw [smL_len]; omega)]
theorem log_below (x : Nat) (a : Rat) (h : Num .f32 x a) (h0 : 0 < a) (w : World) :
    Calls Try.prog 17 #[.float .f32 x] w fun e w' => e = .returned (.float .f32 (LOG x)) ∧ Below w.heap.size w w' :=
  (log_any x a h h0 w).mono fun _ _ ⟨he, n, hn⟩ => ⟨he, by rw [hn]; exact below_drewN _ _⟩
theorem run_store_float (P : Program) (w : World) (p : Addr) (m : Mode) (k : FloatKind) (b : Nat) : (store p (.float k b) m).run P w = stored P w p (.float k b) m := run_store P w p _ m rfl
attribute [local go_sem] run_store_float
theorem info_seen : (Try.prog.info? 56).map (fun i => (i.zero, i.size, i.bytes)) = some (some (.agg #[.int .i64 0, .int .i64 0]), 2, 16) := by kernel_rfl
theorem info_f32 : (Try.prog.info? 27).map (fun i => (i.zero, i.size, i.bytes)) = some (some (.float .f32 0), 1, 4) := by kernel_rfl
set_option maxHeartbeats 4000000 in
theorem logSums_any (v : Value) (bits : List Bool) (d : Nat) (w : World) (h : Rg Value.bool w v bits) (hl : bits.length ≤ 1024) (hd : d ≤ 4) :
    Calls Try.prog 16 #[v, .int .i64 d] w fun e w' => ∃ v', e = .returned (.tuple #[v', .float .f32 (alW bits d bits.length)]) ∧ Og eF w.heap.size w' v' (smL bits d bits.length) ∧ Below w.heap.size w w' := by
  obtain ⟨hp1, hp16⟩ := pow4 d hd
  have hw := wrap_one d hd
  obtain ⟨i0, hi, hz0, hz1, hz2⟩ := info_parts info_seen
  obtain ⟨i1, hj, hy0, hy1, hy2⟩ := info_parts info_f32
  have hR := Lib.hid h
  have hlen := h.len
  obtain ⟨ao, cap, rfl, k1, k2, k3⟩ := h
  obtain ⟨w1, hr1, hob1, hB1, hs1⟩ := run_mk2 (enc := Value.int .i64) w 52 56 i0 (0 : Int) Try.underlying52 hi _ hz0 hz1 rfl (2 ^ d) (by rw [hz2]; omega) (by unfold maxLen; omega)
  obtain ⟨w2, hr2, hob2, hg2, hs2⟩ := run_mk (enc := eF) w1 31 27 i1 (0 : Nat) Try.underlying31 hj hy0 hy1 rfl (2 ^ d) (by omega) (by rw [hy2]; omega) (by unfold maxLen; omega)
  rw [show ((2 ^ d : Nat) : Int) = (2 : Int) ^ d by simp] at hr1 hr2
  have hB2 := grow_below hg2
  have hZ := hob1.below hB2
  have hB := bnext hB1 hB2
  rw [hs1] at hob2
  rw [← prL_zero bits d] at hZ
  rw [← smL_zero bits d] at hob2
  go_enter Try.func16, Try.ntmps16
  go_wp2_with (simp only [hr1, hr2])
  have Hw := Lib.hid hw
  clear hr1 hr2 hob1 hg2 hB1 hB2 hi hz0 hz1 hz2 hj hy0 hy1 hy2 hw
  go_loopw [8, 21] (fun s i wr => ∃ k : Nat, k ≤ bits.length ∧ i = .int .i64 k ∧ s = .float .f32 (alW bits d k) ∧ OB (Value.int .i64) w.heap.size wr w.heap.size 0 (2 * 2 ^ d) (2 * 2 ^ d) (prL bits d k) ∧ OB eF (w.heap.size + 1) wr (w.heap.size + 1) 0 (2 ^ d) (2 ^ d) (smL bits d k) ∧ Below w.heap.size w wr) (fun _ i _ => bits.length - (intOf i).toNat)
  case atStart => exact ⟨0, Nat.zero_le _, rfl, rfl, hZ, hob2, hB⟩
  case round =>
    clear hZ hob2 hB
    obtain ⟨k, hk, rfl, rfl, hZ, hO, hB⟩ := hrel
    by_cases hlt : k < bits.length
    · have hcx := ctxN_lt bits k d
      have cZ : wr.cell? ⟨w.heap.size, ctxN bits k d * 2, none⟩ = some (.int .i64 (cnt bits d (ctxN bits k d) false k)) := by
        have := hZ.cell (ctxN bits k d * 2) (by rw [prL_len]; omega)
        rw [Nat.zero_add] at this
        rw [this]; congr 2
        have h2 := (List.getElem?_eq_some_iff.1 (prL_get bits d k (ctxN bits k d * 2) (by omega))).2
        rw [h2, show ctxN bits k d * 2 / 2 = ctxN bits k d by omega, show (ctxN bits k d * 2 % 2 == 1) = false by rw [Nat.mul_mod_left]; rfl]
      have cY : wr.cell? ⟨w.heap.size, ctxN bits k d * 2 + 1, none⟩ = some (.int .i64 (cnt bits d (ctxN bits k d) true k)) := by
        have := hZ.cell (ctxN bits k d * 2 + 1) (by rw [prL_len]; omega)
        rw [Nat.zero_add] at this
        rw [this]; congr 2
        have h2 := (List.getElem?_eq_some_iff.1 (prL_get bits d k (ctxN bits k d * 2 + 1) (by omega))).2
        rw [h2, show (ctxN bits k d * 2 + 1) / 2 = ctxN bits k d by omega, show ((ctxN bits k d * 2 + 1) % 2 == 1) = true by rw [show (ctxN bits k d * 2 + 1) % 2 = 1 by omega]; rfl]
      have hcn := cnt_le bits d (ctxN bits k d) k
      obtain ⟨a, ra, ra0, -⟩ := pc_num bits d k (by omega)
      have g1 := al_step bits d k (by omega)
      have g2 := (cost_num ra ra0).1
      have g3 := sm_step bits d (ctxN bits k d) k (by omega)
      have hpc : pcW bits d k = chW (if bits.getD k false = true then cnt bits d (ctxN bits k d) true k else cnt bits d (ctxN bits k d) false k) (cnt bits d (ctxN bits k d) false k + cnt bits d (ctxN bits k d) true k + 1) := by
        unfold pcW; cases bits.getD k false <;> rfl
      have hctx := contextOf_any _ bits k d wr (hR.out.below hB) hk hd
      have hbit := bitAt_any _ bits k wr (hR.out.below hB) hlt
      have hch := chance_any (cnt bits d (ctxN bits k d) false k) (cnt bits d (ctxN bits k d) true k) (bits.getD k false)
      rw [← hpc] at hch
      have hps := prL_step bits d k
      have hss := smL_step bits d k
      have hsg := (List.getElem?_eq_some_iff.1 (smL_get bits d k _ hcx))
      have hlp := prL_len bits d k
      have hz0 : ∃ h, (prL bits d k)[ctxN bits k d * 2]'h = cnt bits d (ctxN bits k d) false k := by
        refine ⟨by rw [hlp]; omega, ?_⟩
        rw [(List.getElem?_eq_some_iff.1 (prL_get bits d k (ctxN bits k d * 2) (by omega))).2, show ctxN bits k d * 2 / 2 = ctxN bits k d by omega, show (ctxN bits k d * 2 % 2 == 1) = false by rw [Nat.mul_mod_left]; rfl]
      have hz1 : ∃ h, (prL bits d k)[ctxN bits k d * 2 + 1]'h = cnt bits d (ctxN bits k d) true k := by
        refine ⟨by rw [hlp]; omega, ?_⟩
        rw [(List.getElem?_eq_some_iff.1 (prL_get bits d k (ctxN bits k d * 2 + 1) (by omega))).2, show (ctxN bits k d * 2 + 1) / 2 = ctxN bits k d by omega, show ((ctxN bits k d * 2 + 1) % 2 == 1) = true by rw [show (ctxN bits k d * 2 + 1) % 2 = 1 by omega]; rfl]
      have hls := smL_len bits d k
      have hpc2 : (cnt bits d (ctxN bits k d) (bits.getD k false) k) = (if bits.getD k false = true then cnt bits d (ctxN bits k d) true k else cnt bits d (ctxN bits k d) false k) := by cases bits.getD k false <;> rfl
      rw [hpc2] at hps
      clear hpc hpc2 k3
      generalize cnt bits d (ctxN bits k d) false k = z at *
      generalize cnt bits d (ctxN bits k d) true k = y at *
      generalize ctxN bits k d = c at *
      generalize bits.getD k false = b at *
      have Hps := Lib.hid hps
      have Hss := Lib.hid hss
      have Hsg := Lib.hid hsg
      have Hch := Lib.hid hch
      have HZ := Lib.hid hZ
      have HO := Lib.hid hO
      have HB := Lib.hid hB
      have Hra := Lib.hid ra
      have Hra0 := Lib.hid ra0
      have Hlp := Lib.hid hlp
      have Hz0 := Lib.hid hz0
      have Hz1 := Lib.hid hz1
      have Hls := Lib.hid hls
      clear hps hss hsg hch hZ hO hB ra ra0 hlp hls hz0 hz1
      go_wp2_with (first | (go_at_call 29; refine hctx.mono ?_; rintro e w' ⟨rfl, rfl⟩) | (go_at_call 30; refine hbit.mono ?_; rintro e w' ⟨rfl, rfl⟩))
      refine (Hch.out _ (by omega)).mono ?_; rintro e wA ⟨rfl, bA⟩
      go_wp2_with fail
      refine (log_below _ a Hra.out Hra0.out _).mono ?_; rintro e wB ⟨rfl, bB⟩
      have hAB := bnext bA bB
      have hBB := bnext HB.out hAB
      have hZ' := HZ.out.below hAB
      have hO' := HO.out.below hAB
      clear bA bB hctx hbit cZ cY
      obtain ⟨hs0, hs1'⟩ := Hsg.out
      have cS : wB.cell? ⟨w.heap.size + 1, c, none⟩ = some (.float .f32 (smW bits d c k)) := by
        have := hO'.cell c hs0
        rw [Nat.zero_add, hs1'] at this; exact this
      have fS : wB.frozen? ⟨w.heap.size + 1, c, none⟩ = false := by
        have := hO'.free c hs0
        rwa [Nat.zero_add] at this
      have hputS := hO'.put c hs0 (fadd .f32 (smW bits d c k) (LOG (pcW bits d k)))
      rw [Nat.zero_add, ← Hss.out] at hputS
      have hfarZ := hZ'.far ⟨w.heap.size + 1, c, none⟩ (.float .f32 (fadd .f32 (smW bits d c k) (LOG (pcW bits d k)))) (by simp)
      have hBS := hBB.setCell (p := ⟨w.heap.size + 1, c, none⟩) (Nat.le_succ _) (.float .f32 (fadd .f32 (smW bits d c k) (LOG (pcW bits d k))))
      have o0 := run_neg (P := Try.prog)
      have o1 := run_op (P := Try.prog) g1
      have o2 := run_op (P := Try.prog) g2
      have o3 := run_op (P := Try.prog) g3
      have HputS := Lib.hid hputS
      have HfarZ := Lib.hid hfarZ
      have HBS := Lib.hid hBS
      clear g1 g2 g3 hputS hfarZ hBS hZ' hO' hAB hBB HZ HO HB hs1'
      go_wp2_with fail
      have hZw := HfarZ.out
      have hcell : ∀ i (hi : i < 2 * 2 ^ d), (wB.setCell ⟨w.heap.size + 1, c, none⟩ (.float .f32 (fadd .f32 (smW bits d c k) (LOG (pcW bits d k))))).frozen? ⟨w.heap.size, i, none⟩ = false := fun i hi => by
        have := hZw.free i (by rw [Hlp.out]; exact hi)
        rwa [Nat.zero_add] at this
      have cZ := hZw.cell (c * 2) (by rw [Hlp.out]; omega)
      have cY := hZw.cell (c * 2 + 1) (by rw [Hlp.out]; omega)
      have hfr0 := hcell (c * 2) (by omega)
      have hfr1 := hcell (c * 2 + 1) (by omega)
      rw [Nat.zero_add] at cZ cY
      have hl0 : (prL bits d k)[c * 2]'(by rw [Hlp.out]; omega) = z := Hz0.out.choose_spec
      have hl1 : (prL bits d k)[c * 2 + 1]'(by rw [Hlp.out]; omega) = y := Hz1.out.choose_spec
      rw [hl0] at cZ
      rw [hl1] at cY
      have hp0 := hZw.put (c * 2) (by rw [Hlp.out]; omega) ((z : Int) + 1)
      have hp1 := hZw.put (c * 2 + 1) (by rw [Hlp.out]; omega) ((y : Int) + 1)
      rw [Nat.zero_add] at hp0 hp1
      clear hcell hl0 hl1 hZw
      have hsz : w.heap.size + 1 < (wB.setCell ⟨w.heap.size + 1, c, none⟩ (.float .f32 (fadd .f32 (smW bits d c k) (LOG (pcW bits d k))))).heap.size := HputS.out.hi
      have HputS' := HputS.out
      have HBS' := HBS.out
      clear HputS HBS HfarZ cS fS
      generalize wB.setCell ⟨w.heap.size + 1, c, none⟩ (.float .f32 (fadd .f32 (smW bits d c k) (LOG (pcW bits d k)))) = W at *
      have hcI : (c : Int) < (2 : Int) ^ d := by
        have : ((2 ^ d : Nat) : Int) = (2 : Int) ^ d := by simp
        omega
      cases b
      · simp only [bi, Bool.false_eq_true, if_false] at *
        have hps := Hps.out
        simp only [bN, Bool.false_eq_true, if_false, Nat.add_zero] at hps
        rw [← hps] at hp0
        have hfa := HputS'.far ⟨w.heap.size, c * 2, none⟩ (.int .i64 ((z : Int) + 1)) (by simp)
        have hBf := HBS'.setCell (p := ⟨w.heap.size, c * 2, none⟩) (Nat.le_refl _) (.int .i64 ((z : Int) + 1))
        have HF := Lib.hid (And.intro hp0 (And.intro hfa hBf))
        clear hps hp0 hp1 hfa hBf HputS' HBS' Hps
        -- R12 false
        refine wp_region_held_tail 9 (S := fun W' => W'.cell? ⟨w.heap.size, c * 2, none⟩ = some (.int .i64 z)) (by kernel_rfl) (by decide +kernel) ?_ (fun hHeld => ?_)
        · first | assumption | exact cnext (by assumption) (by assumption) | (simp [go_sem]; assumption)
        simp only [List.take_succ_cons, List.take_zero, List.drop_succ_cons, List.drop_zero, List.length_cons, List.length_nil, Nat.reduceAdd]
        refine wpAnyH_tk (i := 0) (v := ?_) (some 52) rfl rfl (by kernel_rfl) (by decide +kernel) (by decide +kernel) (fun _ _ _ h => h) (by kernel_rfl) ?_ hHeld ?_
        rotate_left
        · (intro w hSw; (try dsimp only at hSw); go_simp <;> with_reducible rfl)
        (try simp only [Act.put, List.setIfInBounds_toArray, List.set_cons_zero, List.set_cons_succ])
        refine wpAnyH_tk (i := 1) (v := ?_) (some 53) rfl rfl (by kernel_rfl) (by decide +kernel) (by decide +kernel) (fun _ _ _ h => h) (by kernel_rfl) ?_ hHeld ?_
        rotate_left
        · (intro w hSw; (try dsimp only at hSw); go_simp <;> with_reducible rfl)
        (try simp only [Act.put, List.setIfInBounds_toArray, List.set_cons_zero, List.set_cons_succ])
        refine wpAnyH_tk (i := 2) (v := ?_) (some 54) rfl rfl (by kernel_rfl) (by decide +kernel) (by decide +kernel) (fun _ _ _ h => h) (by kernel_rfl) ?_ hHeld ?_
        rotate_left
        · (intro w hSw; (try dsimp only at hSw); go_simp <;> with_reducible rfl)
        (try simp only [Act.put, List.setIfInBounds_toArray, List.set_cons_zero, List.set_cons_succ])
        refine wpAnyH_tk (i := 3) (v := ?_) (some 55) rfl rfl (by kernel_rfl) (by decide +kernel) (by decide +kernel) (fun _ _ _ h => h) (by kernel_rfl) ?_ hHeld ?_
        rotate_left
        · (intro w hSw; (try dsimp only at hSw); go_simp <;> with_reducible rfl)
        (try simp only [Act.put, List.setIfInBounds_toArray, List.set_cons_zero, List.set_cons_succ])
        refine wpAnyH_tk (i := 4) (v := ?_) (some 56) rfl rfl (by kernel_rfl) (by decide +kernel) (by decide +kernel) (fun _ _ _ h => h) (by kernel_rfl) ?_ hHeld ?_
        rotate_left
        · (intro w hSw; (try dsimp only at hSw); go_simp <;> with_reducible rfl)
        (try simp only [Act.put, List.setIfInBounds_toArray, List.set_cons_zero, List.set_cons_succ])
        refine wpAnyH_tk (i := 5) (v := ?_) (some 57) rfl rfl (by kernel_rfl) (by decide +kernel) (by decide +kernel) (fun _ _ _ h => h) (by kernel_rfl) ?_ hHeld ?_
        rotate_left
        · (intro w hSw; (try dsimp only at hSw); go_simp <;> with_reducible rfl)
        (try simp only [Act.put, List.setIfInBounds_toArray, List.set_cons_zero, List.set_cons_succ])
        refine wpAnyH_tk (i := 6) (v := ?_) (some 58) rfl rfl (by kernel_rfl) (by decide +kernel) (by decide +kernel) (fun _ _ _ h => h) (by kernel_rfl) ?_ hHeld ?_
        rotate_left
        · (intro w hSw; (try dsimp only at hSw); go_simp <;> with_reducible rfl)
        (try simp only [Act.put, List.setIfInBounds_toArray, List.set_cons_zero, List.set_cons_succ])
        refine wpAnyH_tk (i := 7) (v := ?_) (some 59) rfl rfl (by kernel_rfl) (by decide +kernel) (by decide +kernel) (fun _ _ _ h => h) (by kernel_rfl) ?_ hHeld ?_
        rotate_left
        · (intro w hSw; (try dsimp only at hSw); go_simp <;> with_reducible rfl)
        (try simp only [Act.put, List.setIfInBounds_toArray, List.set_cons_zero, List.set_cons_succ])
        refine wpAnyH_tk (i := 8) (v := ?_) (some 60) rfl rfl (by kernel_rfl) (by decide +kernel) (by decide +kernel) (fun _ _ _ h => h) (by kernel_rfl) ?_ hHeld ?_
        rotate_left
        · (intro w hSw; (try dsimp only at hSw); go_simp <;> with_reducible rfl)
        (try simp only [Act.put, List.setIfInBounds_toArray, List.set_cons_zero, List.set_cons_succ])
        refine wpAnyH_done (by kernel_rfl) ?_ _
        show wpList _ _ _ _ _ _
        -- R12 end false
        go_wp2
        go_roundw
        case rel => exact ⟨k + 1, by omega, by go_num, rfl, HF.out.1.below ((Below.refl _ _).drew), HF.out.2.1.below ((Below.refl _ _).drew), bnext HF.out.2.2 ((Below.refl _ _).drew)⟩
        case measure => simp [intOf]; omega
      · simp only [bi, if_true] at *
        have hps := Hps.out
        simp only [bN, if_true] at hps
        rw [← hps] at hp1
        have hfa := HputS'.far ⟨w.heap.size, c * 2 + 1, none⟩ (.int .i64 ((y : Int) + 1)) (by simp)
        have hBf := HBS'.setCell (p := ⟨w.heap.size, c * 2 + 1, none⟩) (Nat.le_refl _) (.int .i64 ((y : Int) + 1))
        have HF := Lib.hid (And.intro hp1 (And.intro hfa hBf))
        clear hps hp0 hp1 hfa hBf HputS' HBS' Hps
        -- R12 true
        refine wp_region_held_tail 9 (S := fun W' => W'.cell? ⟨w.heap.size, c * 2 + 1, none⟩ = some (.int .i64 y)) (by kernel_rfl) (by decide +kernel) ?_ (fun hHeld => ?_)
        · first | assumption | exact cnext (by assumption) (by assumption) | (simp [go_sem]; assumption)
        simp only [List.take_succ_cons, List.take_zero, List.drop_succ_cons, List.drop_zero, List.length_cons, List.length_nil, Nat.reduceAdd]
        refine wpAnyH_tk (i := 0) (v := ?_) (some 52) rfl rfl (by kernel_rfl) (by decide +kernel) (by decide +kernel) (fun _ _ _ h => h) (by kernel_rfl) ?_ hHeld ?_
        rotate_left
        · (intro w hSw; (try dsimp only at hSw); go_simp <;> with_reducible rfl)
        (try simp only [Act.put, List.setIfInBounds_toArray, List.set_cons_zero, List.set_cons_succ])
        refine wpAnyH_tk (i := 1) (v := ?_) (some 53) rfl rfl (by kernel_rfl) (by decide +kernel) (by decide +kernel) (fun _ _ _ h => h) (by kernel_rfl) ?_ hHeld ?_
        rotate_left
        · (intro w hSw; (try dsimp only at hSw); go_simp <;> with_reducible rfl)
        (try simp only [Act.put, List.setIfInBounds_toArray, List.set_cons_zero, List.set_cons_succ])
        refine wpAnyH_tk (i := 2) (v := ?_) (some 54) rfl rfl (by kernel_rfl) (by decide +kernel) (by decide +kernel) (fun _ _ _ h => h) (by kernel_rfl) ?_ hHeld ?_
        rotate_left
        · (intro w hSw; (try dsimp only at hSw); go_simp <;> with_reducible rfl)
        (try simp only [Act.put, List.setIfInBounds_toArray, List.set_cons_zero, List.set_cons_succ])
        refine wpAnyH_tk (i := 3) (v := ?_) (some 55) rfl rfl (by kernel_rfl) (by decide +kernel) (by decide +kernel) (fun _ _ _ h => h) (by kernel_rfl) ?_ hHeld ?_
        rotate_left
        · (intro w hSw; (try dsimp only at hSw); go_simp <;> with_reducible rfl)
        (try simp only [Act.put, List.setIfInBounds_toArray, List.set_cons_zero, List.set_cons_succ])
        refine wpAnyH_tk (i := 4) (v := ?_) (some 56) rfl rfl (by kernel_rfl) (by decide +kernel) (by decide +kernel) (fun _ _ _ h => h) (by kernel_rfl) ?_ hHeld ?_
        rotate_left
        · (intro w hSw; (try dsimp only at hSw); go_simp <;> with_reducible rfl)
        (try simp only [Act.put, List.setIfInBounds_toArray, List.set_cons_zero, List.set_cons_succ])
        refine wpAnyH_tk (i := 5) (v := ?_) (some 57) rfl rfl (by kernel_rfl) (by decide +kernel) (by decide +kernel) (fun _ _ _ h => h) (by kernel_rfl) ?_ hHeld ?_
        rotate_left
        · (intro w hSw; (try dsimp only at hSw); go_simp <;> with_reducible rfl)
        (try simp only [Act.put, List.setIfInBounds_toArray, List.set_cons_zero, List.set_cons_succ])
        refine wpAnyH_tk (i := 6) (v := ?_) (some 58) rfl rfl (by kernel_rfl) (by decide +kernel) (by decide +kernel) (fun _ _ _ h => h) (by kernel_rfl) ?_ hHeld ?_
        rotate_left
        · (intro w hSw; (try dsimp only at hSw); go_simp <;> with_reducible rfl)
        (try simp only [Act.put, List.setIfInBounds_toArray, List.set_cons_zero, List.set_cons_succ])
        refine wpAnyH_tk (i := 7) (v := ?_) (some 59) rfl rfl (by kernel_rfl) (by decide +kernel) (by decide +kernel) (fun _ _ _ h => h) (by kernel_rfl) ?_ hHeld ?_
        rotate_left
        · (intro w hSw; (try dsimp only at hSw); go_simp <;> with_reducible rfl)
        (try simp only [Act.put, List.setIfInBounds_toArray, List.set_cons_zero, List.set_cons_succ])
        refine wpAnyH_tk (i := 8) (v := ?_) (some 60) rfl rfl (by kernel_rfl) (by decide +kernel) (by decide +kernel) (fun _ _ _ h => h) (by kernel_rfl) ?_ hHeld ?_
        rotate_left
        · (intro w hSw; (try dsimp only at hSw); go_simp <;> with_reducible rfl)
        (try simp only [Act.put, List.setIfInBounds_toArray, List.set_cons_zero, List.set_cons_succ])
        refine wpAnyH_done (by kernel_rfl) ?_ _
        show wpList _ _ _ _ _ _
        -- R12 end true
        go_wp2
        go_roundw
        case rel => exact ⟨k + 1, by omega, by go_num, rfl, HF.out.1.below ((Below.refl _ _).drew), HF.out.2.1.below ((Below.refl _ _).drew), bnext HF.out.2.2 ((Below.refl _ _).drew)⟩
        case measure => simp [intOf]; omega
    · obtain rfl : k = bits.length := by omega
      have hog := (hO.mono (Nat.le_succ _)).og
      clear k3 hZ hO
      go_wp2
      go_ret2
      exact ⟨_, rfl, hog, hB⟩
set_option maxHeartbeats 1000000 in
theorem implGb_any (v : Value) (bits : List Bool) (deep : Int) (w : World) (h : Rg Value.bool w v bits) :
    Calls Try.prog 8 #[v, .int .i64 deep] w fun e w' => e = .returned (.tuple #[.float .f32 (gbV bits deep), .bool (tld bits deep)]) ∧ Below w.heap.size w w' := by
  cases ht : tld bits deep
  · have hv : gbV bits deep = 0 := by simp [gbV, ht]
    rw [hv]
    go_enter Try.func8, Try.ntmps8
    go_wp2_with (go_at_call 15; refine (areTold_any _ bits _ _ h).mono ?_; rw [ht]; rintro e w' ⟨rfl, rfl⟩)
    go_ret2
    exact ⟨rfl, Below.refl _ _⟩
  · obtain ⟨hl, hd0, hd4⟩ := tld_parts ht
    obtain ⟨d, rfl⟩ := Int.eq_ofNat_of_zero_le hd0
    have hv := Lib.hid (show gbV bits d = alW bits d bits.length by simp [gbV, ht])
    obtain ⟨sq, hsq, -⟩ := al_acc bits d bits.length hl
    have hf := fin_num hsq
    have hnb : nbV (alW bits d bits.length) = alW bits d bits.length := by unfold nbV; rw [hf]; rfl
    go_enter Try.func8, Try.ntmps8
    go_wp2_with (first | (go_at_call 15; refine (areTold_any _ bits _ _ h).mono ?_; rw [ht]; rintro e w' ⟨rfl, rfl⟩) | (go_at_call 16; refine (logSums_any _ bits d _ h hl (by omega)).mono ?_; rintro e w1 ⟨vs, rfl, -, hB⟩) | (go_at_call 19; refine (asNumber_any _ _).mono ?_; rw [hf, hnb]; rintro e w' ⟨rfl, n', rfl⟩))
    go_ret2
    exact ⟨by rw [hv.out]; rfl, bnext hB (below_drewN _ _)⟩
end Go.Proofs.Ythafmldcfdcngaa
