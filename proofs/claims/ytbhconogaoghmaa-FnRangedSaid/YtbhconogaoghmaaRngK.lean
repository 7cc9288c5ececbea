/- The text of bits, in the program. Conditions: valid counts, a growth of at most 16, at most 64 letters. -/
import Derived.Test.YtbhconogaoghmaaRngJ
namespace Go.Proofs.Ytbhconogaoghmaa
open Go.RowKit
set_option maxRecDepth 100000
set_option linter.unusedVariables false
set_option linter.unusedSimpArgs false
attribute [local go_sem ↓] Go.wp_at_zero Go.wp_at_succ

/-- What lies in memory between two letters that are read: the counts' box and row, the range, the text so far. -/
structure RtS (O : Int → Int → Obj) (w : World) (n : Int) (A R g off len cap : Nat) (wr : World) (cs : List Int) (low high : Int) (out : List Int) (ov : Value) : Prop where
  a : wr.heap[A]? = some (.cells #[.int .i64 n, .slice (some ⟨g, off, none⟩) len cap] 27 (0, 0))
  cl : OB (Value.int .i64) w.heap.size wr g off len cap cs
  r : wr.heap[R]? = some (O low high)
  o : OwnI (R + 1) wr ov out
  lo : Below w.heap.size w wr
  gR : g < R
  aR : A < R
  ag : A ≠ g
  aw : w.heap.size ≤ A
section
variable {O : Int → Int → Obj} {w : World} {n : Int} {A R g off len cap : Nat} {wr wc : World} {cs : List Int} {low high : Int} {out : List Int} {ov : Value}
theorem RtS.cut (h : RtS O w n A R g off len cap wr cs low high out ov) {low' high' : Int} (h1 : wc.heap[R]? = some (O low' high')) (h2 : Kpt (· = R) wr wc) : RtS O w n A R g off len cap wc cs low' high' out ov :=
  have := h.gR; have := h.aR; have := h.aw
  ⟨h2.blk h.a (by omega), h2.ob h.cl (by omega), h1, h2.row h.o (fun k e hk => by have := (h.o.lt k e).1; omega), h2.below h.lo (fun k e => by omega) h.lo.size, h.gR, h.aR, h.ag, h.aw⟩
theorem RtS.bump (h : RtS O w n A R g off len cap wr cs low high out ov) (l : Nat) (hl : l < cs.length) (x : Int) : RtS O w n A R g off len cap (wr.setCell ⟨g, off + l, none⟩ (.int .i64 x)) (cs.set l x) low high out ov := by
  have := h.gR; have := h.aR; have := h.aw
  have hlo := h.cl.lo
  have hne : ov.ownBlock ≠ some g := fun e => by have := (h.o.lt g e).1; omega
  exact ⟨blk_other (fun e => h.ag e.symm) h.a, h.cl.put l hl x, blk_other (by show g ≠ _; omega) h.r, h.o.kept (grown_setCell wr ⟨g, off + l, none⟩ _) (.inr hne), h.lo.setCell (p := ⟨g, off + l, none⟩) (by show w.heap.size ≤ g; omega) _, h.gR, h.aR, h.ag, h.aw⟩
theorem RtS.next (h : RtS O w n A R g off len cap wr cs low high out ov) (hb : Below wr.heap.size wr wc) : RtS O w n A R g off len cap wc cs low high out ov :=
  ⟨blk_next hb h.a, h.cl.below hb, blk_next hb h.r, own_below hb h.o, bnext h.lo hb, h.gR, h.aR, h.ag, h.aw⟩
theorem RtS.push (h : RtS O w n A R g off len cap wr cs low high out ov) {o : Obj} {ov' : Value} {out' : List Int} (hg : (wr.alloc o).grownBy wc ov.ownBlock) (h1 : OwnI (R + 1) wc ov' out') (h2 : Below w.heap.size w wc) : RtS O w n A R g off len cap wc cs low high out' ov' := by
  have := h.gR; have := h.aR; have := h.aw
  have hne : ∀ k, k < R + 1 → some k ≠ ov.ownBlock := fun k hk e => by have := (h.o.lt k e.symm).1; omega
  exact ⟨blk_grown hg (hne _ (by omega)) (blk_alloc h.a), OB.kept hg (hne _ (by omega)) (OB.below (by go_grown) h.cl), blk_grown hg (hne _ (by omega)) (blk_alloc h.r), h1, h2, h.gR, h.aR, h.ag, h.aw⟩
end
theorem cod_next {c b : Int} {k : Nat} (hk : k < 16) (h : (c + 1) * 2 ^ (16 - k) ≤ 65536) (hb : b ≤ 1) : (2 * c + b + 1) * 2 ^ (16 - (k + 1)) ≤ 65536 := by
  rw [show 16 - k = (16 - (k + 1)) + 1 by omega, Int.pow_succ, Int.mul_comm (2 ^ _) 2, ← Int.mul_assoc] at h
  have h2 : (2 * c + b + 1) * 2 ^ (16 - (k + 1)) ≤ (c + 1) * 2 * 2 ^ (16 - (k + 1)) := Int.mul_le_mul_of_nonneg_right (by omega) (Int.pow_nonneg (by decide))
  omega
theorem cod_le {c : Int} {r : Nat} (h0 : 0 ≤ c) (h : (c + 1) * 2 ^ r ≤ 65536) : c ≤ 65535 := by
  have h1 : (1 : Int) ≤ 2 ^ r := by have := Int.pow_pos (n := 2) (m := r) (by decide); omega
  have h2 : (c + 1) * 1 ≤ (c + 1) * 2 ^ r := Int.mul_le_mul_of_nonneg_left h1 (by omega)
  omega
theorem widT_some {bs : List Bool} {f : Nat} {r : Ts} {b : Int} (h : halv r.low r.high = some b) : widT bs (f + 1) r = widT bs f ⟨2 * (r.low - b), 2 * (r.high - b) + 1, 2 * (r.code - b) + bitI bs r.at', r.at' + 1⟩ := by rw [widT, h]
theorem upto_bd {u T : Int} (h0 : 1 ≤ u) (h1 : u ≤ 65536) (h2 : 1 ≤ T) (h3 : T ≤ 16384) : 1 ≤ u * T ∧ u * T ≤ 1073741824 := by
  have a : 1 * 1 ≤ u * T := Int.mul_le_mul h0 h2 (by omega) (by omega)
  have b : u * T ≤ 65536 * 16384 := Int.mul_le_mul h1 h3 (by omega) (by omega)
  omega
theorem rtF_i64 {gr : Int} {bs : List Bool} {m : Nat} {cs : List Int} : True := trivial
set_option maxHeartbeats 1000000 in
theorem bitAt_any (v : Value) (bs : List Bool) (i : Nat) (w : World) (h : Rg Value.bool w v bs) :
    Calls Try.prog 50 #[v, .int .i64 i] w fun e w' => e = .returned (.int .i64 (bitI bs i)) ∧ w = w' := by
  obtain ⟨ao, cap, rfl, h1, h2, h3⟩ := h
  by_cases hl : i < bs.length
  · obtain ⟨b, off, rfl, hc⟩ := h3 i hl
    have hB := Lib.hid (show bitI bs i = if bs[i] = true then 1 else 0 by simp [bitI, hl])
    clear h3
    cases hb : bs[i] with
    | false =>
      rw [hb] at hB hc
      clear hb
      go_enter Try.func50, Try.ntmps50
      go_wp2
      go_ret
      exact ⟨ret_i64 (by rw [hB.out]; rfl), rfl⟩
    | true =>
      rw [hb] at hB hc
      clear hb
      go_enter Try.func50, Try.ntmps50
      go_wp2
      go_ret
      exact ⟨ret_i64 (by rw [hB.out]; rfl), rfl⟩
  · have hB := Lib.hid (show bitI bs i = 0 by simp [bitI, List.getElem?_eq_none (show bs.length ≤ i by omega)])
    clear h3
    go_enter Try.func50, Try.ntmps50
    go_wp2
    go_ret
    exact ⟨ret_i64 (by rw [hB.out]), rfl⟩
abbrev limO (low high : Int) : Obj := .cells #[.int .i64 low, .int .i64 high] 75
set_option maxHeartbeats 4000000 in
theorem rangeText_any (v : Value) (cs : List Int) (vb : Value) (bs : List Bool) (m : Nat) (gr : Int) (w : World) (h : RI w v cs) (hbs : Rg Value.bool w vb bs) (hp : Pos cs) (hcl : cs.length ≤ 16) (hcl1 : 1 ≤ cs.length) (hsum : sumL cs + gr * m ≤ 16384) (hg0 : 0 ≤ gr) (hg1 : gr ≤ 16) (hm : m ≤ 64) :
    Calls Try.prog 31 #[.agg #[.int .i64 cs.length, v], vb, .int .i64 m, .int .i64 gr] w fun e w' => ∃ v', e = .returned v' ∧ OI w.heap.size w' v' (rt gr cs bs m) ∧ Below w.heap.size w w' := by
  obtain ⟨ao, cap, rfl⟩ := h.shape
  have hlen := h.len
  have hb : ∀ o, Below w.heap.size w (w.alloc o) := fun o => by go_grown
  have hB0 := hb (.cells #[.int .i64 cs.length, .slice ao cs.length cap] 27)
  have hA : (w.alloc (.cells #[.int .i64 cs.length, .slice ao cs.length cap] 27)).heap[w.heap.size]? = some (.cells #[.int .i64 cs.length, .slice ao cs.length cap] 27 (0, 0)) := heap_alloc_new w _
  have hs0 : (w.alloc (.cells #[.int .i64 cs.length, .slice ao cs.length cap] 27)).heap.size = w.heap.size + 1 := by simp
  have H := Lib.hid h
  have Hbit := Lib.hid (show ∀ W' : World, Below w.heap.size w W' → ∀ i : Nat, Calls Try.prog 50 #[vb, .int .i64 i] W' fun e w' => e = .returned (.int .i64 (bitI bs i)) ∧ W' = w' from fun W' hB i => bitAt_any vb bs i W' (hbs.below hB))
  have Hbi := Lib.hid (bitI_bd bs)
  have Hp := Lib.hid hp
  have Hsum := Lib.hid hsum
  clear h hp hsum hbs
  go_enter Try.func31, Try.ntmps31
  go_wp2_with fail
  generalize w.alloc (.cells #[.int .i64 cs.length, .slice ao cs.length cap] 27) = W0 at *
  obtain ⟨a0, a1, -, -⟩ := blk2 hA
  have HR0 := Lib.hid (H.out.below hB0)
  have hbw : Below W0.heap.size W0 W0.drew := below_drewN W0 1
  refine wp_region_held_tail 6 (S := fun W' => W'.cell? ⟨w.heap.size, 0, none⟩ = some (.int .i64 cs.length) ∧ W'.cell? ⟨w.heap.size, 1, none⟩ = some (.slice ao cs.length cap) ∧ Below W0.heap.size W0 W') (by kernel_rfl) (by decide +kernel) ?_ (fun hHeld => ?_)
  · (try go_split_ands); refine ⟨?_, ?_, ?_⟩ <;> first | assumption | exact cnext (by assumption) (by assumption) | exact bnext (by assumption) (by assumption) | exact Below.alloc (by assumption) (Below.size (by assumption)) _ | (go_keep; done)
  simp only [List.take_succ_cons, List.take_zero, List.drop_succ_cons, List.drop_zero, List.length_cons, List.length_nil, Nat.reduceAdd]
  refine wpAnyH_tk (i := 0) (v := ?_) (some 18) rfl rfl (by kernel_rfl) (by decide +kernel) (by decide +kernel) (fun _ _ _ h => h) (by kernel_rfl) ?_ hHeld ?_
  rotate_left
  · (intro w hSw; (try dsimp only at hSw); go_simp <;> with_reducible rfl)
  (try simp only [Act.put, List.setIfInBounds_toArray, List.set_cons_zero, List.set_cons_succ])
  refine wpAnyH_tk (i := 1) (v := ?_) (some 19) rfl rfl (by kernel_rfl) (by decide +kernel) (by decide +kernel) (fun _ _ _ h => h) (by kernel_rfl) ?_ hHeld ?_
  rotate_left
  · (intro w hSw; (try dsimp only at hSw); go_simp <;> with_reducible rfl)
  (try simp only [Act.put, List.setIfInBounds_toArray, List.set_cons_zero, List.set_cons_succ])
  refine wpAnyH_tk (i := 2) (v := ?_) (some 20) rfl rfl (by kernel_rfl) (by decide +kernel) (by decide +kernel) (fun _ _ _ h => h) (by kernel_rfl) ?_ hHeld ?_
  rotate_left
  · (intro w hSw; (try dsimp only at hSw); go_simp <;> with_reducible rfl)
  (try simp only [Act.put, List.setIfInBounds_toArray, List.set_cons_zero, List.set_cons_succ])
  refine wpAnyH_tk (i := 3) (v := ?_) (some 21) rfl rfl (by kernel_rfl) (by decide +kernel) (by decide +kernel) (fun _ _ _ h => h) (by kernel_rfl) ?_ hHeld ?_
  rotate_left
  · (intro w hSw; (try dsimp only at hSw); go_simp <;> with_reducible rfl)
  (try simp only [Act.put, List.setIfInBounds_toArray, List.set_cons_zero, List.set_cons_succ])
  refine wpAnyH_ready (rs := [4]) (by kernel_rfl) (by simp) ?_
  refine AllReadyH.cons rfl (fun K hK => ?_) AllReadyH.nil
  go_simp
  with_reducible refine Calls.mono (clone_any _ cs _ (HR0.out.below (by go_split_ands; assumption)) (by omega)) ?_
  rintro e w1 ⟨vc, rfl, hoc, hb1⟩
  obtain ⟨gb, off, ck, rfl, hob⟩ := Og.ob hoc.2 (by omega)
  try go_wp2_with fail
  refine hK.out _ _ ?_ (fun hHeld => ?_)
  · (try go_split_ands); refine ⟨?_, ?_, ?_⟩ <;> first | assumption | exact cnext (by assumption) (by assumption) | exact bnext (by assumption) (by assumption) | exact Below.alloc (by assumption) (Below.size (by assumption)) _ | (go_keep; done)
  clear hK K
  (try simp only [Act.put, List.setIfInBounds_toArray, List.set_cons_zero, List.set_cons_succ])
  refine wpAnyH_tk (i := 5) (v := ?_) (some 23) rfl rfl (by kernel_rfl) (by decide +kernel) (by decide +kernel) (fun _ _ _ h => h) (by kernel_rfl) ?_ hHeld ?_
  rotate_left
  · (intro w hSw; (try dsimp only at hSw); go_simp <;> with_reducible rfl)
  (try simp only [Act.put, List.setIfInBounds_toArray, List.set_cons_zero, List.set_cons_succ])
  refine wpAnyH_done (by kernel_rfl) ?_ _
  show wpList _ _ _ _ _ _
  have hBq : Below W0.heap.size W0 w1 := by go_split_ands; assumption
  have hA1 := blk_next hBq hA
  have hB1 := bnext hB0 hBq
  clear hHeld hbw a0 a1 hoc hb1 hA
  obtain ⟨a0, a1, f0, f1⟩ := blk2 hA1
  have hglo : w.heap.size + 1 ≤ gb := by have := hob.lo; have : W0.drew.heap.size = w.heap.size + 1 := hs0; omega
  have hobm := hob.mono (B' := w.heap.size) (by have : W0.drew.heap.size = w.heap.size + 1 := hs0; omega)
  have hRw : w.heap.size < w1.heap.size := blk_lt hA1
  have hA2 := blk_set1 (u := .slice (some ⟨gb, off, none⟩) cs.length ck) (blk_set0 (u := .int .i64 cs.length) hA1)
  have hob2 := (hobm.far ⟨w.heap.size, 0, none⟩ (.int .i64 cs.length) (by show w.heap.size ≠ gb; omega)).far ⟨w.heap.size, 1, none⟩ (.slice (some ⟨gb, off, none⟩) cs.length ck) (by show w.heap.size ≠ gb; omega)
  have hB2 := below_box hB1 w.heap.size (Nat.le_refl _) (.int .i64 cs.length) (.slice (some ⟨gb, off, none⟩) cs.length ck)
  have hsz2 : ((w1.setCell ⟨w.heap.size, 0, none⟩ (.int .i64 cs.length)).setCell ⟨w.heap.size, 1, none⟩ (.slice (some ⟨gb, off, none⟩) cs.length ck)).heap.size = w1.heap.size := by simp
  clear hobm hA1 hB1 hob
  go_wp2_with fail
  generalize hW2 : ((w1.setCell ⟨w.heap.size, 0, none⟩ (.int .i64 cs.length)).setCell ⟨w.heap.size, 1, none⟩ (.slice (some ⟨gb, off, none⟩) cs.length ck)) = W2 at *
  clear hW2 a0 a1 f0 f1
  have hBW3 : Below w.heap.size w (W2.alloc (.cells #[.int .i64 0, .int .i64 65535] 75)) := bnext hB2 (by go_grown)
  have hst0 : RtS limO w cs.length w.heap.size w1.heap.size gb off cs.length ck ((W2.alloc (.cells #[.int .i64 0, .int .i64 65535] 75)).alloc (.cells #[] 2)) cs 0 65535 [] (.slice (some ⟨w1.heap.size + 1, 0, none⟩) 0 0) := by
    have hbl : Below W2.heap.size W2 ((W2.alloc (.cells #[.int .i64 0, .int .i64 65535] 75)).alloc (.cells #[] 2)) := by go_grown
    refine ⟨blk_next hbl hA2, hob2.below hbl, ?_, ?_, bnext hB2 hbl, by have := hob2.hi; rw [hsz2] at this; exact this, hRw, by omega, Nat.le_refl _⟩
    · have := heap_alloc_new W2 (.cells #[.int .i64 0, .int .i64 65535] 75)
      rw [hsz2] at this
      exact blk_alloc this
    · have := own_empty (W2.alloc (.cells #[.int .i64 0, .int .i64 65535] 75)) (w1.heap.size + 1) (by simp [hsz2])
      rw [World.size_alloc, hsz2] at this
      exact this
  clear hA2 hob2 hB2
  go_wp2_with fail
  go_loop [10, 11] (fun c i => ∃ (k : Nat) (code : Int), i = .int .i64 k ∧ c = .int .i64 code ∧ k ≤ 16 ∧ codF bs (16 - k) k code = codF bs 16 0 0 ∧ 0 ≤ code ∧ (code + 1) * 2 ^ (16 - k) ≤ 65536) (fun _ i => 16 - (intOf i).toNat)
  case atStart => exact ⟨0, 0, rfl, rfl, by omega, rfl, by omega, by decide⟩
  case round =>
    obtain ⟨k, code, rfl, rfl, hk, hq, hc0, hc1⟩ := hrel
    have Hq := Lib.hid hq
    clear hq
    have hc2 := cod_le hc0 hc1
    have Hc1 := Lib.hid hc1
    clear hc1
    by_cases hk16 : k < 16
    · have hbk := Hbi.out k
      have Hq2 := Lib.hid (show codF bs (16 - (k + 1)) (k + 1) (2 * code + bitI bs k) = codF bs 16 0 0 by rw [← Hq.out, show 16 - k = (16 - (k + 1)) + 1 by omega, codF])
      have Hn := Lib.hid (cod_next hk16 Hc1.out hbk.2)
      have Hbc := Lib.hid (Hbit.out _ hBW3 k)
      generalize bitI bs k = bk at *
      go_wp2_with fail
      refine Hbc.out.mono ?_
      rintro e w' ⟨rfl, rfl⟩
      go_wp2
      go_round
      case rel => exact ⟨k + 1, _, by go_num, rfl, by omega, Hq2.out, by omega, Hn.out⟩
      case measure => simp [intOf]; omega
    · obtain rfl : k = 16 := by omega
      have HC := Lib.hid (show code = codF bs 16 0 0 from Hq.out)
      clear hk16 hk
      go_wp2_with fail
      simp only [hsz2] at *
      generalize (W2.alloc (.cells #[.int .i64 0, .int .i64 65535] 75)).alloc (.cells #[] 2) = W3 at *
      clear hBW3 hsz2
      generalize w1.heap.size = R at *
      go_loopw [10, 11, 12, 37] (fun cv av ov kv wr => ∃ (k : Nat) (cs' : List Int) (low high code : Int) (at' : Nat) (out : List Int), kv = .int .i64 k ∧ cv = .int .i64 code ∧ av = .int .i64 at' ∧ k ≤ m ∧ rtF gr bs (m - k) cs' ⟨low, high, code, at'⟩ out = rt gr cs bs m ∧ Tok ⟨low, high, code, at'⟩ ∧ 16385 ≤ high - low + 1 ∧ at' ≤ 16 + 17 * k ∧ Pos cs' ∧ cs'.length = cs.length ∧ sumL cs' + gr * ((m - k : Nat) : Int) ≤ 16384 ∧ out.length = k ∧ AllI64 out ∧ RtS limO w cs.length w.heap.size R gb off cs.length ck wr cs' low high out ov) (fun _ _ _ kv _ => m - (intOf kv).toNat)
      case atStart => exact ⟨0, cs, 0, 65535, code, 16, [], rfl, rfl, rfl, Nat.zero_le _, by rw [HC.out]; rfl, ⟨by show (0 : Int) ≤ 0; omega, hc0, hc2, by show (65535 : Int) ≤ 65535; omega⟩, by omega, by omega, Hp.out, rfl, by rw [Nat.sub_zero]; exact Hsum.out, rfl, (fun z hz => by cases hz), hst0⟩
      case round =>
        clear hst0 hc0 hc2 HC Hq Hc1
        obtain ⟨k, cs', low, high, code, at', out, rfl, rfl, rfl, hk, hq, hrok, hwd, hat, hp, hlc, hsum, hol, ho64, hst⟩ := hrel
        obtain ⟨aoo, capo, rfl⟩ := hst.o.shape
        obtain ⟨hk0, hk1, hk2, hk3⟩ := hrok
        dsimp only at hk0 hk1 hk2 hk3
        have Hq := Lib.hid hq
        have Hp' := Lib.hid hp
        have Hol := Lib.hid hol
        have Ho64 := Lib.hid ho64
        clear hq hp hol ho64
        by_cases hkm : k < m
        · have hkI : (k : Int) < (m : Int) := by omega
          have hcn : cs' ≠ [] := by intro e; rw [e] at hlc; simp at hlc; omega
          have Hlc := Lib.hid hlc
          clear hlc
          have hgs : gr * ((m - k : Nat) : Int) = gr * ((m - (k + 1) : Nat) : Int) + gr := by
            rw [show m - k = (m - (k + 1)) + 1 by omega, Int.natCast_add, Int.mul_add]; simp
          have hgn : 0 ≤ gr * ((m - (k + 1) : Nat) : Int) := Int.mul_nonneg hg0 (by omega)
          rw [hgs] at hsum
          have hs16 : sumL cs' ≤ 16384 := by omega
          have hpl := place_bd Hp'.out hcn hk1 hk2
          have hlr := letr_bd Hp'.out hcn hpl.1 hpl.2
          have hTn := Tok.next (bs := bs) (r := ⟨low, high, code, at'⟩) ⟨hk0, hk1, hk2, hk3⟩ hwd Hp'.out hcn hs16
          have hnb := narrow_bd Hp'.out hlr.1 hk0 hk3 (by omega)
          dsimp only at hTn
          have HTn := Lib.hid hTn
          have Hq2 := Lib.hid (show rtF gr bs (m - (k + 1)) (bumpG cs' (letr cs' (place cs' low high code)) gr) (widT bs 17 ⟨nLow cs' (letr cs' (place cs' low high code)) low high, nHigh cs' (letr cs' (place cs' low high code)) low high, code, at'⟩) (out ++ [((letr cs' (place cs' low high code) : Nat) : Int)]) = rt gr cs bs m by
            rw [← Hq.out, show m - k = (m - (k + 1)) + 1 by omega, rtF])
          have Hpe := Lib.hid (show place cs' low high code = ((code - low + 1) * sumL cs' - 1) / (high - low + 1) from rfl)
          have Hlal := Lib.hid (lalF_eq Hp'.out hlr.1 hlr.2.1 (by rw [befo_succ hlr.1]; exact hlr.2.2) cs'.length 0 0 (by omega) (.inl (Nat.zero_le _)))
          have Hlet := Lib.hid (show letF cs' (place cs' low high code) (cs'.length - 1) 0 = letr cs' (place cs' low high code) from rfl)
          have hsp := sumL_pos Hp'.out
          have hwo := widT_out bs 17 ⟨nLow cs' (letr cs' (place cs' low high code)) low high, nHigh cs' (letr cs' (place cs' low high code)) low high, code, at'⟩ (fuel17 hnb.2.1) hTn
          have Hwo := Lib.hid hwo
          have Hpb := Lib.hid hpl
          generalize hl : letr cs' (place cs' low high code) = l at *
          have hll := hlr.1
          have HpB := Lib.hid (bumpG_pos Hp'.out hll hg0)
          have HsB := Lib.hid (show sumL (bumpG cs' l gr) + gr * ((m - (k + 1) : Nat) : Int) ≤ 16384 by rw [bumpG_sum hll]; omega)
          have Hcb := Lib.hid (show git cs' l = cs'[l] from git_eq hll)
          have hgb := befo_next Hp'.out hll
          have hbb := befo_bd Hp'.out l
          have Hlr := Lib.hid hlr
          generalize place cs' low high code = p at *
          have hc16 : cs'.length ≤ 16 := by rw [Hlc.out]; exact hcl
          obtain ⟨T, hT⟩ : ∃ T, sumL cs' = T := ⟨_, rfl⟩
          have HT := Lib.hid hT
          have Hs16 := Lib.hid hs16
          rw [hT] at hs16 hsum hpl Hpe hsp hgb hbb
          have hub := upto_bd (u := code - low + 1) (T := T) (by omega) (by omega) (by omega) hs16
          obtain ⟨u, hu⟩ : ∃ u, code - low + 1 = u := ⟨_, rfl⟩
          obtain ⟨wd, hwde⟩ : ∃ wd, high - low + 1 = wd := ⟨_, rfl⟩
          have hu1 : 1 ≤ u := by omega
          have hu2 : u ≤ 65536 := by omega
          have hw1 : 1 ≤ wd := by omega
          have hw2 : wd ≤ 65536 := by omega
          have Hu := Lib.hid hu
          have Hwd := Lib.hid hwde
          rw [hu] at hub Hpe
          rw [hwde] at Hpe
          have hv1 : IntKind.i64.wrap (code - low) = code - low := IntWalk.i64_in _ (by omega)
          have hv2 : IntKind.i64.wrap (code - low + 1) = u := by rw [Hu.out]; exact IntWalk.i64_in _ (by omega)
          have hv3 : IntKind.i64.wrap (u * T) = u * T := IntWalk.i64_in _ (by omega)
          have hv4 : IntKind.i64.wrap (u * T - 1) = u * T - 1 := IntWalk.i64_in _ (by omega)
          have hv5 : IntKind.i64.wrap (high - low) = high - low := IntWalk.i64_in _ (by omega)
          have hv6 : IntKind.i64.wrap (high - low + 1) = wd := by rw [Hwd.out]; exact IntWalk.i64_in _ (by omega)
          have hv7 : (u * T - 1).tdiv wd = p := by rw [Int.tdiv_eq_ediv_of_nonneg (by omega)]; exact Hpe.out.symm
          have hv8 : IntKind.i64.wrap p = p := IntWalk.i64_in _ (by omega)
          have hwne : wd ≠ 0 := by omega
          clear hT hu hwde hl hlr hTn hwo hgs hcn Hpe
          have hRI : RI wr (.slice (some ⟨gb, off, none⟩) cs.length ck) cs' := ⟨pos_i64 Hp'.out Hs16.out, hst.cl.og.rg⟩
          have HRI := Lib.hid hRI
          have Hst := Lib.hid hst
          obtain ⟨c0, c1, -, -⟩ := blk2 hst.a
          obtain ⟨r0, r1, -, -⟩ := blk2 hst.r
          have hbw : Below wr.heap.size wr wr.drew := below_drewN wr 1
          clear hst hRI
          go_wp2_with fail
          refine wp_region_held_drew (S := fun W' => W'.cell? ⟨w.heap.size, 0, none⟩ = some (.int .i64 cs.length) ∧ W'.cell? ⟨w.heap.size, 1, none⟩ = some (.slice (some ⟨gb, off, none⟩) cs.length ck) ∧ W'.cell? ⟨R, 0, none⟩ = some (.int .i64 low) ∧ W'.cell? ⟨R, 1, none⟩ = some (.int .i64 high) ∧ Below wr.heap.size wr W') (by kernel_rfl) ?_ (fun hHeld => ?_)
          · (try go_split_ands); refine ⟨?_, ?_, ?_, ?_, ?_⟩ <;> first | assumption | exact cnext (by assumption) (by assumption) | exact bnext (by assumption) (by assumption) | exact Below.alloc (by assumption) (Below.size (by assumption)) _ | (go_keep; done)
          refine wpAnyH_tk (i := 0) (v := ?_) (some 39) rfl rfl (by kernel_rfl) (by decide +kernel) (by decide +kernel) (fun _ _ _ h => h) (by kernel_rfl) ?_ hHeld ?_
          rotate_left
          · (intro w hSw; (try dsimp only at hSw); go_simp <;> with_reducible rfl)
          (try simp only [Act.put, List.setIfInBounds_toArray, List.set_cons_zero, List.set_cons_succ])
          refine wpAnyH_tk (i := 1) (v := ?_) (some 40) rfl rfl (by kernel_rfl) (by decide +kernel) (by decide +kernel) (fun _ _ _ h => h) (by kernel_rfl) ?_ hHeld ?_
          rotate_left
          · (intro w hSw; (try dsimp only at hSw); go_simp <;> with_reducible rfl)
          (try simp only [Act.put, List.setIfInBounds_toArray, List.set_cons_zero, List.set_cons_succ])
          refine wpAnyH_tk (i := 2) (v := ?_) (some 41) rfl rfl (by kernel_rfl) (by decide +kernel) (by decide +kernel) (fun _ _ _ h => h) (by kernel_rfl) ?_ hHeld ?_
          rotate_left
          · (intro w hSw; (try dsimp only at hSw); go_simp <;> with_reducible rfl)
          (try simp only [Act.put, List.setIfInBounds_toArray, List.set_cons_zero, List.set_cons_succ])
          refine wpAnyH_tk (i := 3) (v := ?_) (some 42) rfl rfl (by kernel_rfl) (by decide +kernel) (by decide +kernel) (fun _ _ _ h => h) (by kernel_rfl) ?_ hHeld ?_
          rotate_left
          · (intro w hSw; (try dsimp only at hSw); go_simp <;> with_reducible rfl)
          (try simp only [Act.put, List.setIfInBounds_toArray, List.set_cons_zero, List.set_cons_succ])
          refine wpAnyH_tk (i := 4) (v := ?_) (some 43) rfl rfl (by kernel_rfl) (by decide +kernel) (by decide +kernel) (fun _ _ _ h => h) (by kernel_rfl) ?_ hHeld ?_
          rotate_left
          · (intro w hSw; (try dsimp only at hSw); go_simp <;> with_reducible rfl)
          (try simp only [Act.put, List.setIfInBounds_toArray, List.set_cons_zero, List.set_cons_succ])
          refine wpAnyH_tk (i := 5) (v := ?_) (some 44) rfl rfl (by kernel_rfl) (by decide +kernel) (by decide +kernel) (fun _ _ _ h => h) (by kernel_rfl) ?_ hHeld ?_
          rotate_left
          · (intro w hSw; (try dsimp only at hSw); go_simp <;> with_reducible rfl)
          (try simp only [Act.put, List.setIfInBounds_toArray, List.set_cons_zero, List.set_cons_succ])
          refine wpAnyH_tk (i := 9) (v := ?_) (some 48) rfl rfl (by kernel_rfl) (by decide +kernel) (by decide +kernel) (fun _ _ _ h => h) (by kernel_rfl) ?_ hHeld ?_
          rotate_left
          · (intro w hSw; (try dsimp only at hSw); go_simp <;> with_reducible rfl)
          (try simp only [Act.put, List.setIfInBounds_toArray, List.set_cons_zero, List.set_cons_succ])
          refine wpAnyH_tk (i := 10) (v := ?_) (some 49) rfl rfl (by kernel_rfl) (by decide +kernel) (by decide +kernel) (fun _ _ _ h => h) (by kernel_rfl) ?_ hHeld ?_
          rotate_left
          · (intro w hSw; (try dsimp only at hSw); go_simp <;> with_reducible rfl)
          (try simp only [Act.put, List.setIfInBounds_toArray, List.set_cons_zero, List.set_cons_succ])
          refine wpAnyH_tk (i := 11) (v := ?_) (some 50) rfl rfl (by kernel_rfl) (by decide +kernel) (by decide +kernel) (fun _ _ _ h => h) (by kernel_rfl) ?_ hHeld ?_
          rotate_left
          · (intro w hSw; (try dsimp only at hSw); go_simp <;> with_reducible rfl)
          (try simp only [Act.put, List.setIfInBounds_toArray, List.set_cons_zero, List.set_cons_succ])
          refine wpAnyH_tk (i := 12) (v := ?_) (some 51) rfl rfl (by kernel_rfl) (by decide +kernel) (by decide +kernel) (fun _ _ _ h => h) (by kernel_rfl) ?_ hHeld ?_
          rotate_left
          · (intro w hSw; (try dsimp only at hSw); go_simp <;> with_reducible rfl)
          (try simp only [Act.put, List.setIfInBounds_toArray, List.set_cons_zero, List.set_cons_succ])
          refine wpAnyH_tk (i := 13) (v := ?_) (some 52) rfl rfl (by kernel_rfl) (by decide +kernel) (by decide +kernel) (fun _ _ _ h => h) (by kernel_rfl) ?_ hHeld ?_
          rotate_left
          · (intro w hSw; (try dsimp only at hSw); go_simp <;> with_reducible rfl)
          (try simp only [Act.put, List.setIfInBounds_toArray, List.set_cons_zero, List.set_cons_succ])
          refine wpAnyH_tk (i := 14) (v := ?_) (some 53) rfl rfl (by kernel_rfl) (by decide +kernel) (by decide +kernel) (fun _ _ _ h => h) (by kernel_rfl) ?_ hHeld ?_
          rotate_left
          · (intro w hSw; (try dsimp only at hSw); go_simp <;> with_reducible rfl)
          (try simp only [Act.put, List.setIfInBounds_toArray, List.set_cons_zero, List.set_cons_succ])
          refine wpAnyH_ready (rs := [6]) (by kernel_rfl) (by simp) ?_
          refine AllReadyH.cons rfl (fun K hK => ?_) AllReadyH.nil
          go_simp
          with_reducible refine Calls.mono (total_any _ _ cs' _ (HRI.out.below (by go_split_ands; assumption)) (pos_small Hp'.out Hs16.out) (by omega)) ?_
          rw [HT.out]
          rintro e w1 ⟨rfl, hb1⟩
          try go_wp2_with fail
          refine hK.out _ _ ?_ (fun hHeld => ?_)
          · (try go_split_ands); refine ⟨?_, ?_, ?_, ?_, ?_⟩ <;> first | assumption | exact cnext (by assumption) (by assumption) | exact bnext (by assumption) (by assumption) | exact Below.alloc (by assumption) (Below.size (by assumption)) _ | (go_keep; done)
          clear hK K
          (try simp only [Act.put, List.setIfInBounds_toArray, List.set_cons_zero, List.set_cons_succ])
          refine wpAnyH_tk (i := 7) (v := ?_) (some 46) rfl rfl (by kernel_rfl) (by decide +kernel) (by decide +kernel) (fun _ _ _ h => h) (by kernel_rfl) ?_ hHeld ?_
          rotate_left
          · (intro w hSw; (try dsimp only at hSw); go_simp <;> with_reducible rfl)
          (try simp only [Act.put, List.setIfInBounds_toArray, List.set_cons_zero, List.set_cons_succ])
          refine wpAnyH_tk (i := 8) (v := ?_) (some 47) rfl rfl (by kernel_rfl) (by decide +kernel) (by decide +kernel) (fun _ _ _ h => h) (by kernel_rfl) ?_ hHeld ?_
          rotate_left
          · (intro w hSw; (try dsimp only at hSw); go_simp <;> with_reducible rfl)
          (try simp only [Act.put, List.setIfInBounds_toArray, List.set_cons_zero, List.set_cons_succ])
          refine wpAnyH_tk (i := 15) (v := ?_) (some 54) rfl rfl (by kernel_rfl) (by decide +kernel) (by decide +kernel) (fun _ _ _ h => h) (by kernel_rfl) ?_ hHeld ?_
          rotate_left
          · (intro w hSw; (try dsimp only at hSw); go_simp <;> with_reducible rfl)
          (try simp only [Act.put, List.setIfInBounds_toArray, List.set_cons_zero, List.set_cons_succ])
          refine wpAnyH_tk (i := 16) (v := ?_) (some 13) rfl rfl (by kernel_rfl) (by decide +kernel) (by decide +kernel) (fun _ _ _ h => h) (by kernel_rfl) ?_ hHeld ?_
          rotate_left
          · (intro w hSw; (try dsimp only at hSw); go_simp <;> with_reducible rfl)
          (try simp only [Act.put, List.setIfInBounds_toArray, List.set_cons_zero, List.set_cons_succ])
          refine wpAnyH_done (by kernel_rfl) ?_ _
          have hBq : Below wr.heap.size wr w1 := by go_split_ands; assumption
          have hst1 := Hst.out.next hBq
          clear hHeld hbw c0 c1 r0 r1 hb1 hBq
          have hRI1 : RI w1 (.slice (some ⟨gb, off, none⟩) cs.length ck) cs' := ⟨pos_i64 Hp'.out Hs16.out, hst1.cl.og.rg⟩
          have Htk := Lib.hid (show ∀ j, j ≤ cs'.length → RI w1 (.slice (some ⟨gb, off, none⟩) j ck) (cs'.take j) from fun j hj => ⟨fun z hz => hRI1.1 z (List.mem_of_mem_take hz), hRI1.2.take j hj⟩)
          have hcap := hst1.cl.capn
          have HRI1 := Lib.hid hRI1
          obtain ⟨c0, c1, -, -⟩ := blk2 hst1.a
          have Hst1 := Lib.hid hst1
          clear hst1 hRI1
          go_wp2_with fail
          go_loop [14, 57] (fun lv kv => ∃ (j l' : Nat), kv = .int .i64 j ∧ lv = .int .i64 l' ∧ j ≤ cs.length ∧ lalF cs' p (cs.length - j) j l' = l) (fun _ kv => cs.length - (intOf kv).toNat)
          case atStart => exact ⟨0, 0, rfl, rfl, Nat.zero_le _, by rw [← Hlc.out]; exact Hlal.out⟩
          case round =>
            obtain ⟨j, l', rfl, rfl, hj, hq⟩ := hrel
            have Hqj := Lib.hid hq
            clear hq
            by_cases hjl : j < cs.length
            · have hjI : (j : Int) < (cs.length : Int) := by omega
              have hj0 : (0 : Int) ≤ (j : Int) := by omega
              have hjc : (j : Int) ≤ (ck : Int) := by omega
              have Hqn := Lib.hid (show lalF cs' p (cs.length - (j + 1)) (j + 1) (if befo cs' j ≤ p then j else l') = l by rw [← Hqj.out, show cs.length - j = (cs.length - (j + 1)) + 1 by omega, lalF])
              have HS := Lib.hid (sumOf_any _ (cs'.take j) _ (Htk.out j (by rw [Hlc.out]; omega)) (fun z hz => pos_small Hp'.out Hs16.out z (List.mem_of_mem_take hz)) (by rw [List.length_take]; omega))
              have Hbe := Lib.hid (show sumL (cs'.take j) = befo cs' j from rfl)
              go_wp2_with fail
              refine HS.out.mono ?_
              rw [Hbe.out]
              rintro e w' ⟨rfl, rfl⟩
              generalize befo cs' j = bj at *
              by_cases hbp : bj ≤ p
              · have Hqm := Lib.hid (show lalF cs' p (cs.length - (j + 1)) (j + 1) j = l by have := Hqn.out; rw [if_pos hbp] at this; exact this)
                go_wp2
                go_round
                case rel => exact ⟨j + 1, j, by go_num, rfl, by omega, Hqm.out⟩
                case measure => simp [intOf]; omega
              · have Hqm := Lib.hid (show lalF cs' p (cs.length - (j + 1)) (j + 1) l' = l by have := Hqn.out; rw [if_neg hbp] at this; exact this)
                go_wp2
                go_round
                case rel => exact ⟨j + 1, l', by go_num, rfl, by omega, Hqm.out⟩
                case measure => simp [intOf]; omega
            · have hje : j = cs.length := by omega
              have hle : l = l' := by rw [← Hqj.out, hje, Nat.sub_self, lalF]
              subst hle
              have hcu := Lib.hid (cut_any R cs.length _ cs' l low high w1 HRI1.out Hp'.out Hs16.out hll hc16 Hst1.out.r hk0 (by omega) hk3)
              clear hje
              go_wp2_with fail
              refine hcu.out.mono ?_
              rintro e wn ⟨rfl, hRc, hkc⟩
              have hst := Hst1.out.cut hRc hkc
              clear hRc hkc hcu c0 c1 Hst1 HRI1 Htk HRI Hst
              have Hstw := Lib.hid hst
              obtain ⟨nl, hnl⟩ : ∃ nl, nLow cs' l low high = nl := ⟨_, rfl⟩
              obtain ⟨nh, hnh⟩ : ∃ nh, nHigh cs' l low high = nh := ⟨_, rfl⟩
              rw [hnl, hnh] at hst hnb Hq2 Hwo HTn
              have hto := Hwo.out.1
              have HTo := Lib.hid hto
              clear hnl hnh
              go_wp2_with fail
              go_loopg [10, 11] 17 (fun f cv av wr' => ∃ (lo hi co : Int) (at2 : Nat), cv = .int .i64 co ∧ av = .int .i64 at2 ∧ widT bs f ⟨lo, hi, co, at2⟩ = widT bs 17 ⟨nl, nh, code, at'⟩ ∧ Fuel f lo hi ∧ Tok ⟨lo, hi, co, at2⟩ ∧ at2 + f ≤ at' + 17 ∧ RtS limO w cs.length w.heap.size R gb off cs.length ck wr' cs' lo hi out (.slice aoo out.length capo))
              case atStart => exact ⟨nl, nh, code, at', rfl, rfl, rfl, fuel17 hnb.2.1, HTn.out, Nat.le_refl _, hst⟩
              case round =>
                clear hst Hstw hto HTo
                obtain ⟨lo, hi, co, at2, rfl, rfl, hw, hfu, htk, hat2, hst⟩ := hrel
                obtain ⟨ht0, ht1, ht2, ht3⟩ := htk
                dsimp only at ht0 ht1 ht2 ht3
                have Hw := Lib.hid hw
                have Hfu := Lib.hid hfu
                clear hw hfu
                cases hh : halv lo hi with
                | none =>
                  have Hw2 := Lib.hid (show (⟨lo, hi, co, at2⟩ : Ts) = widT bs 17 ⟨nl, nh, code, at'⟩ by rw [← Hw.out, widT_none hh])
                  have hce := hst.cl.cell l hll
                  have hcf := hst.cl.free l hll
                  rw [← Hcb.out] at hce
                  obtain ⟨c0, c1, -, -⟩ := blk2 hst.a
                  have hgb1 := hgb.1
                  have hgb2 : git cs' l ≤ 16384 := by omega
                  have hlI : (l : Int) < (cs.length : Int) := by have := Hlc.out; omega
                  have hsh := Lib.hid (shift_none R lo hi _ hst.r hh)
                  have hst3 := hst.bump l hll (git cs' l + gr)
                  have hszR : R + 1 ≤ (wr.setCell ⟨gb, off + l, none⟩ (.int .i64 (git cs' l + gr))).heap.size := by have := blk_lt hst3.r; omega
                  have Hst3 := Lib.hid (show RtS limO w cs.length w.heap.size R gb off cs.length ck _ (bumpG cs' l gr) lo hi out _ from hst3)
                  have HO := Lib.hid (And.intro hst3.o hst3.lo)
                  generalize hgv : git cs' l = gv at *
                  have hvg : IntKind.i64.wrap (gv + gr) = gv + gr := IntWalk.i64_in _ (by omega)
                  clear hst hst3 hh hgv
                  go_wp2_with fail
                  refine hsh.out.mono ?_
                  rintro e w' ⟨rfl, rfl⟩
                  clear hsh
                  go_wp2_with (at_builtin; go_must (refine app_ints rfl _ _ rfl (R + 1) w.heap.size (by have := Hst3.out.aR; omega) (.slice aoo out.length capo) out rfl HO.out.1 HO.out.2 _ _ [(l : Int)] (by rw [World.size_setCell]; rfl) rfl (by rw [Hol.out]; simp; omega) hszR ?_))
                  intro v5 w5 hown5 hB5 hg5
                  have hst5 := Hst3.out.push hg5 hown5 hB5
                  have Hst5 := Lib.hid hst5
                  clear hown5 hB5 hg5 hst5 c0 c1 hce hcf
                  go_wp2
                  go_roundw
                  case rel => exact ⟨k + 1, bumpG cs' l gr, lo, hi, co, at2, out ++ [(l : Int)], by go_num, rfl, rfl, by omega, by rw [Hw2.out]; exact Hq2.out, ⟨ht0, ht1, ht2, ht3⟩, by have h9 := Hwo.out.2.1; rw [← Hw2.out] at h9; exact h9, by omega, HpB.out, by rw [bumpG_len]; exact Hlc.out, HsB.out, by rw [List.length_append, Hol.out]; rfl, (fun z hz => by rcases List.mem_append.1 hz with hz | hz; exact Ho64.out z hz; obtain rfl := List.mem_singleton.1 hz; constructor <;> omega), Hst5.out⟩
                  case measure => simp [intOf]; omega
                | some b =>
                  have hb := halv_some hh ht0 (by omega) ht3
                  obtain ⟨f', rfl⟩ := Hfu.out.pos ht0 ht3
                  have Hfu2 := Lib.hid (Hfu.out.next (b := b))
                  have Hw3 := Lib.hid (widT_some (bs := bs) (f := f') (r := ⟨lo, hi, co, at2⟩) hh)
                  have hsh := Lib.hid (shift_some R lo hi b _ hst.r ht0 (by omega) ht3 hh)
                  have hkd : 0 ≤ kd b := by unfold kd; split <;> (try split) <;> decide
                  have hbk := Hbi.out at2
                  have Hbc := Lib.hid (fun W' (hB : Below w.heap.size w W') => Hbit.out W' hB at2)
                  have Hst := Lib.hid hst
                  generalize kd b = kk at *
                  generalize bitI bs at2 = bk at *
                  clear hh hst
                  go_wp2_with fail
                  refine hsh.out.mono ?_
                  rintro e ws ⟨rfl, hR6, hk6⟩
                  have hst2 := Hst.out.cut hR6 hk6
                  have Hbd := Lib.hid (Hbc.out ws hst2.lo)
                  have Hst2 := Lib.hid hst2
                  clear hst2 hR6 hk6 hsh Hst Hbc
                  go_wp2_with fail
                  refine Hbd.out.mono ?_
                  rintro e w' ⟨rfl, rfl⟩
                  clear Hbd
                  go_wp2
                  go_roundg f'
                  case measure => omega
                  case rel => exact ⟨2 * (lo - b), 2 * (hi - b) + 1, 2 * (co - b) + bk, at2 + 1, rfl, by go_num, by rw [← Hw.out, Hw3.out], Hfu2.out, ⟨by show (0 : Int) ≤ 2 * (lo - b); omega, by show 2 * (lo - b) ≤ 2 * (co - b) + bk; omega, by show 2 * (co - b) + bk ≤ 2 * (hi - b) + 1; omega, by show 2 * (hi - b) + 1 ≤ 65535; omega⟩, by omega, Hst2.out⟩
        · have hke : k = m := by omega
          have hfin : out = rt gr cs bs m := by rw [← Hq.out, hke, Nat.sub_self, rtF]
          have Hfin := Lib.hid hfin
          have hoi := OI.mono (show w.heap.size ≤ R + 1 by have := hst.aR; omega) (hst.o.oi Ho64.out)
          have hlo := hst.lo
          have Hoi := Lib.hid (And.intro hoi hlo)
          clear hst hfin hoi hlo hke
          go_wp2
          go_ret
          exact ⟨_, rfl, by rw [← Hfin.out]; exact Hoi.out.1, Hoi.out.2⟩
end Go.Proofs.Ytbhconogaoghmaa
