/- The bits of a text, in the program. Conditions: valid counts, letters of them, a growth of at most 16. -/
import Derived.Test.YtbhconogaoghmaaRngI
import Derived.Test.YtbhconogaoghmaaClone
import Derived.Deep.LoopGhost
import Derived.Handy
namespace Go.Proofs.Ytbhconogaoghmaa
open Go.RowKit
set_option maxRecDepth 100000
set_option linter.unusedVariables false
set_option linter.unusedSimpArgs false
attribute [local go_sem ↓] Go.wp_at_zero Go.wp_at_succ

/-- What lies in memory between two letters: the counts' box and row, the range, the sender. -/
structure RbS (w : World) (n : Int) (R g off len cap : Nat) (wr : World) (cs : List Int) (low high : Int) (wait : Nat) (bits : List Bool) (bv : Value) : Prop where
  a : wr.heap[w.heap.size]? = some (.cells #[.int .i64 n, .slice (some ⟨g, off, none⟩) len cap] 27 (0, 0))
  cl : OB (Value.int .i64) (w.heap.size + 1) wr g off len cap cs
  r : wr.heap[R]? = some (.cells #[.int .i64 low, .int .i64 high] 75 (0, 0))
  s : wr.heap[R + 1 + 1]? = some (.cells #[bv, .int .i64 wait] 77 (0, 0))
  b : OwnB (R + 1) wr bv bits
  lo : Below w.heap.size w wr
  gR : g < R
section
variable {w : World} {n : Int} {R g off len cap : Nat} {wr wc : World} {cs : List Int} {low high : Int} {wait : Nat} {bits : List Bool} {bv : Value}
theorem RbS.wR (h : RbS w n R g off len cap wr cs low high wait bits bv) : w.heap.size < R := by have := h.cl.lo; have := h.gR; omega
theorem RbS.cut (h : RbS w n R g off len cap wr cs low high wait bits bv) {low' high' : Int} (h1 : wc.heap[R]? = some (.cells #[.int .i64 low', .int .i64 high'] 75 (0, 0))) (h2 : Kpt (· = R) wr wc) : RbS w n R g off len cap wc cs low' high' wait bits bv :=
  have hw := h.wR
  ⟨h2.blk h.a (by omega), h2.ob h.cl (by have := h.gR; omega), h1, h2.blk h.s (by omega), h2.row h.b (fun k e => by have := (World.ownsRow.lt h.b k e).1; omega), h2.below h.lo (fun k e => by omega) h.lo.size, h.gR⟩
theorem RbS.put (h : RbS w n R g off len cap wr cs low high wait bits bv) {bv' : Value} {wait' : Nat} {bits' : List Bool} (h1 : wc.heap[R + 1 + 1]? = some (.cells #[bv', .int .i64 wait'] 77 (0, 0))) (h2 : OwnB (R + 1) wc bv' bits') (h3 : Kpt (SndF (R + 1) (R + 1 + 1) wr) wr wc) : RbS w n R g off len cap wc cs low high wait' bits' bv' :=
  have hw := h.wR
  have hg := h.gR
  ⟨h3.blk h.a (by unfold SndF; omega), h3.ob h.cl (by unfold SndF; omega), h3.blk h.r (by unfold SndF; omega), h1, h2, h3.below h.lo (fun k e => by rcases e with e | e <;> omega) h.lo.size, h.gR⟩
theorem RbS.set (h : RbS w n R g off len cap wr cs low high wait bits bv) (wait' : Nat) : RbS w n R g off len cap (wr.setCell ⟨R + 1 + 1, 1, none⟩ (.int .i64 wait')) cs low high wait' bits bv := by
  have hw := h.wR
  have hg := h.gR
  have hne : bv.ownBlock ≠ some (R + 1 + 1) := blk_not_row h.s (by decide) h.b
  exact ⟨blk_other (by show R + 1 + 1 ≠ _; omega) h.a, h.cl.far _ _ (by show R + 1 + 1 ≠ _; omega), blk_other (by show R + 1 + 1 ≠ _; omega) h.r, blk_set1 h.s, World.ownsRow.kept h.b (grown_setCell wr ⟨R + 1 + 1, 1, none⟩ _) (.inr hne), h.lo.setCell (p := ⟨R + 1 + 1, 1, none⟩) (by show w.heap.size ≤ R + 1 + 1; omega) _, h.gR⟩
theorem RbS.bump (h : RbS w n R g off len cap wr cs low high wait bits bv) (l : Nat) (hl : l < cs.length) (x : Int) : RbS w n R g off len cap (wr.setCell ⟨g, off + l, none⟩ (.int .i64 x)) (cs.set l x) low high wait bits bv := by
  have hw := h.wR
  have hg := h.gR
  have hlo := h.cl.lo
  have hne : bv.ownBlock ≠ some g := fun e => by have := (World.ownsRow.lt h.b g e).1; omega
  exact ⟨blk_other (by show g ≠ _; omega) h.a, h.cl.put l hl x, blk_other (by show g ≠ _; omega) h.r, blk_other (by show g ≠ _; omega) h.s, World.ownsRow.kept h.b (grown_setCell wr ⟨g, off + l, none⟩ _) (.inr hne), h.lo.setCell (p := ⟨g, off + l, none⟩) (by show w.heap.size ≤ g; omega) _, h.gR⟩
theorem RbS.drewN (h : RbS w n R g off len cap wr cs low high wait bits bv) (m : Nat) : RbS w n R g off len cap (wr.drewN m) cs low high wait bits bv :=
  ⟨h.a, h.cl, h.r, h.s, h.b, bnext h.lo (below_drewN _ m), h.gR⟩
end
def rbOk (g : Int) (cs zs : List Int) : Bool := decide ((rb g cs zs).length ≤ 1024)
def rbZ (g : Int) (cs zs : List Int) : List Bool := if rbOk g cs zs = true then rb g cs zs else []
theorem halv_cases {low high b : Int} (h : halv low high = some b) : b = 0 ∨ b = 32768 ∨ b = 16384 := by
  unfold halv at h
  split at h
  · exact .inl (Option.some.inj h).symm
  · split at h
    · exact .inr (.inl (Option.some.inj h).symm)
    · split at h
      · exact .inr (.inr (Option.some.inj h).symm)
      · cases h
theorem wid_some {f : Nat} {r : Rs} {b : Int} (h : halv r.low r.high = some b) : wid (f + 1) r = wid f ⟨2 * (r.low - b), 2 * (r.high - b) + 1, if b = 16384 then r.wait + 1 else 0, if b = 16384 then r.bits else r.bits ++ tellB (decide (b = 32768)) r.wait⟩ := by rw [wid, h]
theorem pos_i64 {cs : List Int} (h : Pos cs) (hs : sumL cs ≤ 16384) : AllI64 cs := fun z hz => by have := pos_small h hs z hz; constructor <;> omega
set_option maxHeartbeats 4000000 in
theorem rangeBits_any (n : Int) (v : Value) (cs : List Int) (vt : Value) (zs : List Int) (gr : Int) (w : World) (h : RI w v cs) (ht : RI w vt zs) (hp : Pos cs) (hcl : cs.length ≤ 16) (hcl1 : 1 ≤ cs.length) (hsum : sumL cs + gr * zs.length ≤ 16384) (hg0 : 0 ≤ gr) (hg1 : gr ≤ 16) (hzl : zs.length ≤ 64) (hz : ∀ z ∈ zs, 0 ≤ z ∧ z < cs.length) :
    Calls Try.prog 29 #[.agg #[.int .i64 n, v], vt, .int .i64 gr] w fun e w' => ∃ v', e = .returned (.tuple #[v', .bool (rbOk gr cs zs)]) ∧ Og Value.bool w.heap.size w' v' (rbZ gr cs zs) ∧ Below w.heap.size w w' := by
  obtain ⟨ao, cap, rfl⟩ := h.shape
  obtain ⟨aot, capt, rfl⟩ := ht.shape
  have hlen := h.len
  have hlt := ht.len
  have hb : ∀ o, Below w.heap.size w (w.alloc o) := fun o => by go_grown
  have hB0 := hb (.cells #[.int .i64 n, .slice ao cs.length cap] 27)
  have hA : (w.alloc (.cells #[.int .i64 n, .slice ao cs.length cap] 27)).heap[w.heap.size]? = some (.cells #[.int .i64 n, .slice ao cs.length cap] 27 (0, 0)) := heap_alloc_new w _
  have hs0 : (w.alloc (.cells #[.int .i64 n, .slice ao cs.length cap] 27)).heap.size = w.heap.size + 1 := by simp
  have H := Lib.hid h
  have HT := Lib.hid ht
  have Hz := Lib.hid hz
  have Hp := Lib.hid hp
  have Hsum := Lib.hid hsum
  clear h ht hz hp hsum
  go_enter Try.func29, Try.ntmps29
  go_wp2_with fail
  generalize w.alloc (.cells #[.int .i64 n, .slice ao cs.length cap] 27) = W0 at *
  obtain ⟨a0, a1, -, -⟩ := blk2 hA
  have HR0 := Lib.hid (H.out.below hB0)
  have hbw : Below W0.heap.size W0 W0.drew := below_drewN W0 1
  refine wp_region_held_tail 6 (S := fun W' => W'.cell? ⟨w.heap.size, 0, none⟩ = some (.int .i64 n) ∧ W'.cell? ⟨w.heap.size, 1, none⟩ = some (.slice ao cs.length cap) ∧ Below W0.heap.size W0 W') (by kernel_rfl) (by decide +kernel) ?_ (fun hHeld => ?_)
  · (try go_split_ands); refine ⟨?_, ?_, ?_⟩ <;> first | assumption | exact cnext (by assumption) (by assumption) | exact bnext (by assumption) (by assumption) | exact Below.alloc (by assumption) (Below.size (by assumption)) _ | (go_keep; done)
  simp only [List.take_succ_cons, List.take_zero, List.drop_succ_cons, List.drop_zero, List.length_cons, List.length_nil, Nat.reduceAdd]
  refine wpAnyH_tk (i := 0) (v := ?_) (some 14) rfl rfl (by kernel_rfl) (by decide +kernel) (by decide +kernel) (fun _ _ _ h => h) (by kernel_rfl) ?_ hHeld ?_
  rotate_left
  · (intro w hSw; (try dsimp only at hSw); go_simp <;> with_reducible rfl)
  (try simp only [Act.put, List.setIfInBounds_toArray, List.set_cons_zero, List.set_cons_succ])
  refine wpAnyH_tk (i := 1) (v := ?_) (some 15) rfl rfl (by kernel_rfl) (by decide +kernel) (by decide +kernel) (fun _ _ _ h => h) (by kernel_rfl) ?_ hHeld ?_
  rotate_left
  · (intro w hSw; (try dsimp only at hSw); go_simp <;> with_reducible rfl)
  (try simp only [Act.put, List.setIfInBounds_toArray, List.set_cons_zero, List.set_cons_succ])
  refine wpAnyH_tk (i := 2) (v := ?_) (some 16) rfl rfl (by kernel_rfl) (by decide +kernel) (by decide +kernel) (fun _ _ _ h => h) (by kernel_rfl) ?_ hHeld ?_
  rotate_left
  · (intro w hSw; (try dsimp only at hSw); go_simp <;> with_reducible rfl)
  (try simp only [Act.put, List.setIfInBounds_toArray, List.set_cons_zero, List.set_cons_succ])
  refine wpAnyH_tk (i := 3) (v := ?_) (some 17) rfl rfl (by kernel_rfl) (by decide +kernel) (by decide +kernel) (fun _ _ _ h => h) (by kernel_rfl) ?_ hHeld ?_
  rotate_left
  · (intro w hSw; (try dsimp only at hSw); go_simp <;> with_reducible rfl)
  (try simp only [Act.put, List.setIfInBounds_toArray, List.set_cons_zero, List.set_cons_succ])
  refine wpAnyH_ready (rs := [4]) (by kernel_rfl) (by simp) ?_
  refine AllReadyH.cons rfl (fun K hK => ?_) AllReadyH.nil
  go_simp
  with_reducible refine Calls.mono (clone_any _ cs _ (HR0.out.below (by go_split_ands; assumption)) (by omega)) ?_
  rintro e w1 ⟨vc, rfl, hoc, hb1⟩
  obtain ⟨gk, off, ck, rfl, hob⟩ := Og.ob hoc.2 (by omega)
  try go_wp2_with fail
  refine hK.out _ _ ?_ (fun hHeld => ?_)
  · (try go_split_ands); refine ⟨?_, ?_, ?_⟩ <;> first | assumption | exact cnext (by assumption) (by assumption) | exact bnext (by assumption) (by assumption) | exact Below.alloc (by assumption) (Below.size (by assumption)) _ | (go_keep; done)
  clear hK K
  (try simp only [Act.put, List.setIfInBounds_toArray, List.set_cons_zero, List.set_cons_succ])
  refine wpAnyH_tk (i := 5) (v := ?_) (some 19) rfl rfl (by kernel_rfl) (by decide +kernel) (by decide +kernel) (fun _ _ _ h => h) (by kernel_rfl) ?_ hHeld ?_
  rotate_left
  · (intro w hSw; (try dsimp only at hSw); go_simp <;> with_reducible rfl)
  (try simp only [Act.put, List.setIfInBounds_toArray, List.set_cons_zero, List.set_cons_succ])
  refine wpAnyH_done (by kernel_rfl) ?_ _
  show wpList _ _ _ _ _ _
  have hBq : Below W0.heap.size W0 w1 := by go_split_ands; assumption
  have hA1 := blk_next hBq hA
  have hB1 := bnext hB0 hBq
  clear hHeld hbw a0 a1 hoc hb1 hA
  obtain ⟨a0, a1, f0, f1⟩ := blk2 hA1
  have hobm := hob.mono (B' := w.heap.size + 1) (by have := hob.lo; have : W0.drew.heap.size = w.heap.size + 1 := hs0; omega)
  have hRw : w.heap.size < w1.heap.size := blk_lt hA1
  have hA2 := blk_set1 (u := .slice (some ⟨gk, off, none⟩) cs.length ck) (blk_set0 (u := .int .i64 n) hA1)
  have hob2 := (hobm.far ⟨w.heap.size, 0, none⟩ (.int .i64 n) (by show w.heap.size ≠ gk; have := hobm.lo; omega)).far ⟨w.heap.size, 1, none⟩ (.slice (some ⟨gk, off, none⟩) cs.length ck) (by show w.heap.size ≠ gk; have := hobm.lo; omega)
  have hB2 := below_box hB1 w.heap.size (Nat.le_refl _) (.int .i64 n) (.slice (some ⟨gk, off, none⟩) cs.length ck)
  have hsz2 : ((w1.setCell ⟨w.heap.size, 0, none⟩ (.int .i64 n)).setCell ⟨w.heap.size, 1, none⟩ (.slice (some ⟨gk, off, none⟩) cs.length ck)).heap.size = w1.heap.size := by simp
  clear hobm hA1 hB1 hob
  go_wp2_with fail
  generalize hW2 : ((w1.setCell ⟨w.heap.size, 0, none⟩ (.int .i64 n)).setCell ⟨w.heap.size, 1, none⟩ (.slice (some ⟨gk, off, none⟩) cs.length ck)) = W2 at *
  clear hW2 a0 a1 f0 f1
  have hst0 : RbS w n w1.heap.size gk off cs.length ck (((W2.alloc (.cells #[.int .i64 0, .int .i64 65535] 75)).alloc (.cells #[] 4)).alloc (.cells #[.slice (some ⟨w1.heap.size + 1, 0, none⟩) 0 0, .int .i64 0] 77)) cs 0 65535 0 [] (.slice (some ⟨w1.heap.size + 1, 0, none⟩) 0 0) := by
    have hbl : Below W2.heap.size W2 (((W2.alloc (.cells #[.int .i64 0, .int .i64 65535] 75)).alloc (.cells #[] 4)).alloc (.cells #[.slice (some ⟨w1.heap.size + 1, 0, none⟩) 0 0, .int .i64 0] 77)) := by go_grown
    refine ⟨blk_next hbl hA2, hob2.below hbl, ?_, ?_, ?_, bnext hB2 hbl, by have := hob2.hi; rw [hsz2] at this; exact this⟩
    · have := heap_alloc_new W2 (.cells #[.int .i64 0, .int .i64 65535] 75)
      rw [hsz2] at this
      exact blk_alloc (blk_alloc this)
    · have := heap_alloc_new ((W2.alloc (.cells #[.int .i64 0, .int .i64 65535] 75)).alloc (.cells #[] 4)) (.cells #[.slice (some ⟨w1.heap.size + 1, 0, none⟩) 0 0, .int .i64 0] 77)
      simp only [World.size_alloc, hsz2] at this
      exact this
    · have := ownB_empty (W2.alloc (.cells #[.int .i64 0, .int .i64 65535] 75)) (w1.heap.size + 1) (by simp [hsz2])
      rw [World.size_alloc, hsz2] at this
      exact World.ownsRow.alloc this _
  generalize ((W2.alloc (.cells #[.int .i64 0, .int .i64 65535] 75)).alloc (.cells #[] 4)).alloc (.cells #[.slice (some ⟨w1.heap.size + 1, 0, none⟩) 0 0, .int .i64 0] 77) = W3 at *
  clear hA2 hob2 hB2 hsz2
  generalize w1.heap.size = R at *
  go_loopw [25] (fun i wr => ∃ (k : Nat) (cs' : List Int) (low high : Int) (wait : Nat) (bits : List Bool) (bv : Value), i = .int .i64 k ∧ k ≤ zs.length ∧ rbF gr (zs.drop k) cs' ⟨low, high, wait, bits⟩ = rb gr cs zs ∧ Rok ⟨low, high, wait, bits⟩ cs' (17 * k) ∧ Pos cs' ∧ cs'.length = cs.length ∧ sumL cs' + gr * ((zs.length - k : Nat) : Int) ≤ 16384 ∧ RbS w n R gk off cs.length ck wr cs' low high wait bits bv) (fun i _ => zs.length - (intOf i).toNat)
  case atStart => exact ⟨0, cs, 0, 65535, 0, [], _, rfl, Nat.zero_le _, rfl, ⟨by show (0 : Int) ≤ 0; omega, by show (0 : Int) ≤ 65535; omega, by show (65535 : Int) ≤ 65535; omega, by show (16385 : Int) ≤ 65535 - 0 + 1; omega, by simp⟩, Hp.out, rfl, by rw [Nat.sub_zero]; exact Hsum.out, hst0⟩
  case round =>
    clear hst0
    obtain ⟨k, cs', low, high, wait, bits, bv, rfl, hk, hq, hrok, hp, hlc, hsum, hst⟩ := hrel
    obtain ⟨hr0, hr1, hr2, hr3, hr4⟩ := hrok
    dsimp only at hr0 hr1 hr2 hr3 hr4
    have Hq := Lib.hid hq
    have Hp' := Lib.hid hp
    have Hlc := Lib.hid hlc
    clear hq hp hlc
    by_cases hkl : k < zs.length
    · have hzk := Hz.out zs[k] (List.getElem_mem hkl)
      obtain ⟨bt, ot, et, -, hTc⟩ := HT.out.2.cells (by omega)
      obtain rfl := et
      have hTk := cnext hst.lo (hTc k hkl)
      obtain ⟨l, hl⟩ : ∃ l : Nat, zs[k] = l := ⟨zs[k].toNat, by omega⟩
      rw [hl] at hTk hzk
      have hll : l < cs'.length := by rw [Hlc.out]; omega
      have hgs : gr * ((zs.length - k : Nat) : Int) = gr * ((zs.length - (k + 1) : Nat) : Int) + gr := by
        rw [show zs.length - k = (zs.length - (k + 1)) + 1 by omega, Int.natCast_add, Int.mul_add]; simp
      have hgn : 0 ≤ gr * ((zs.length - (k + 1) : Nat) : Int) := Int.mul_nonneg hg0 (by omega)
      rw [hgs] at hsum
      have hs16 : sumL cs' ≤ 16384 := by omega
      have hnb := narrow_bd Hp'.out hll hr0 hr2 (by omega)
      have Hq2 := Lib.hid (show rbF gr (zs.drop (k + 1)) (bumpG cs' l gr) (wid 17 ⟨nLow cs' l low high, nHigh cs' l low high, wait, bits⟩) = rb gr cs zs by
        rw [← Hq.out, List.drop_eq_getElem_cons hkl, rbF, hl, Int.toNat_natCast])
      have hrn := Rok.next (r := ⟨low, high, wait, bits⟩) (cs := cs') (N := 17 * k) ⟨hr0, hr1, hr2, hr3, hr4⟩ Hp'.out hs16 hll (bumpG cs' l gr)
      dsimp only at hrn
      have Hrn := Lib.hid hrn
      have HpB := Lib.hid (bumpG_pos Hp'.out hll hg0)
      have HsB := Lib.hid (show sumL (bumpG cs' l gr) + gr * ((zs.length - (k + 1) : Nat) : Int) ≤ 16384 by rw [bumpG_sum hll]; omega)
      have Hcb := Lib.hid (show git cs' l = cs'[l] from git_eq hll)
      have hgb := befo_next Hp'.out hll
      have hbb := befo_bd Hp'.out l
      have hRI : RI wr (.slice (some ⟨gk, off, none⟩) cs.length ck) cs' := ⟨pos_i64 Hp'.out hs16, hst.cl.og.rg⟩
      have hRr := hst.r
      have HRI := Lib.hid hRI
      obtain ⟨c0, c1, -, -⟩ := blk2 hst.a
      have hc16 : cs'.length ≤ 16 := by rw [Hlc.out]; exact hcl
      clear hl hTc hrn hgs hRI
      go_wp2_with fail
      refine (cut_any R n _ cs' l low high _ HRI.out Hp'.out hs16 hll hc16 hRr hr0 hr1 hr2).mono ?_
      rintro e wc ⟨rfl, hRc, hkc⟩
      have hst2 := hst.cut hRc hkc
      clear hst hRc hkc hRr c0 c1 hTk
      obtain ⟨nl, hnl⟩ : ∃ nl, nLow cs' l low high = nl := ⟨_, rfl⟩
      obtain ⟨nh, hnh⟩ : ∃ nh, nHigh cs' l low high = nh := ⟨_, rfl⟩
      rw [hnl, hnh] at hst2 hnb Hq2 Hrn
      clear hnl hnh
      go_wp2_with fail
      go_loopg [] 17 (fun f wr' => ∃ (lo hi : Int) (wait' : Nat) (bits' : List Bool) (bv' : Value), wid f ⟨lo, hi, wait', bits'⟩ = wid 17 ⟨nl, nh, wait, bits⟩ ∧ Fuel f lo hi ∧ 0 ≤ lo ∧ lo ≤ hi ∧ hi ≤ 65535 ∧ bits'.length + wait' + f ≤ 17 * k + 17 ∧ RbS w n R gk off cs.length ck wr' cs' lo hi wait' bits' bv')
      case atStart => exact ⟨nl, nh, wait, bits, _, rfl, fuel17 hnb.2.1, by omega, hnb.2.1, by omega, by omega, hst2⟩
      case round =>
        clear hst2
        obtain ⟨lo, hi, wait', bits', bv', hw, hfu, h0, h1, h2, hbl, hst⟩ := hrel
        have Hw := Lib.hid hw
        have Hfu := Lib.hid hfu
        have hr := hst.r
        clear hw hfu
        cases hh : halv lo hi with
        | none =>
          have Hw2 := Lib.hid (show (⟨lo, hi, wait', bits'⟩ : Rs) = wid 17 ⟨nl, nh, wait, bits⟩ by rw [← Hw.out, wid_none hh])
          have hsh := shift_none R lo hi wr hr hh
          obtain ⟨c0, c1, -, -⟩ := blk2 hst.a
          have hce := hst.cl.cell l hll
          have hcf := hst.cl.free l hll
          rw [← Hcb.out] at hce
          have hst3 := hst.bump l hll (git cs' l + gr)
          have hgb1 := hgb.1
          have hgb2 : git cs' l ≤ 16384 := by omega
          have Hbm := Lib.hid (show cs'.set l (git cs' l + gr) = bumpG cs' l gr from rfl)
          have hlI : (l : Int) < (cs.length : Int) := by omega
          have Hst3 := Lib.hid hst3
          generalize hgv : git cs' l = gv at *
          clear hst hst3 hr hgv
          go_wp2_with fail
          refine hsh.mono ?_
          rintro e w' ⟨rfl, rfl⟩
          clear hsh
          go_wp2
          go_roundw
          case rel => exact ⟨k + 1, bumpG cs' l gr, lo, hi, wait', bits', bv', by go_num, by omega, by rw [Hw2.out]; exact Hq2.out, by rw [Hw2.out, Nat.mul_add]; exact Hrn.out, HpB.out, by rw [bumpG_len]; exact Hlc.out, HsB.out, by rw [← Hbm.out]; exact Hst3.out⟩
          case measure => simp [intOf] <;> omega
        | some b =>
          rcases halv_cases hh with rfl | rfl | rfl
          · have hb := halv_some hh h0 h1 h2
            have hsh := shift_some R lo hi 0 wr hr h0 h1 h2 hh
            rw [show kd 0 = 0 from rfl] at hsh
            obtain ⟨f', rfl⟩ := Hfu.out.pos h0 h2
            have Hfu2 := Lib.hid (Hfu.out.next (b := 0))
            go_wp2_with fail
            refine hsh.mono ?_
            rintro e ws ⟨rfl, hR6, hk6⟩
            have hst2 := hst.cut hR6 hk6
            clear hsh hr hR6 hk6
            have hRs : R + 1 ≤ ws.heap.size := by have := blk_lt hst2.s; omega
            clear hst
            go_wp2_with fail
            refine (put_any (R + 1 + 1) (R + 1) bv' bits' false wait' ws hst2.s hst2.b hRs (by omega)).mono ?_
            rintro e wp ⟨rfl, v6, hS6, hb6, hk6⟩
            have hst3 := hst2.put hS6 hb6 hk6
            have Hst3 := Lib.hid hst3
            have Htl := Lib.hid (show (bits' ++ tellB false wait').length = bits'.length + wait' + 1 by simp [tellB]; omega)
            clear hst2 hst3 hS6 hb6 hk6
            go_wp2
            go_roundg f'
            case measure => omega
            case rel => exact ⟨2 * (lo - 0), 2 * (hi - 0) + 1, 0, bits' ++ tellB false wait', v6, by rw [← Hw.out, wid_some hh]; rfl, Hfu2.out, by omega, by omega, by omega, by rw [Htl.out]; omega, Hst3.out⟩
          · have hb := halv_some hh h0 h1 h2
            have hsh := shift_some R lo hi 32768 wr hr h0 h1 h2 hh
            rw [show kd 32768 = 1 from rfl] at hsh
            obtain ⟨f', rfl⟩ := Hfu.out.pos h0 h2
            have Hfu2 := Lib.hid (Hfu.out.next (b := 32768))
            go_wp2_with fail
            refine hsh.mono ?_
            rintro e ws ⟨rfl, hR6, hk6⟩
            have hst2 := hst.cut hR6 hk6
            clear hsh hr hR6 hk6
            have hRs : R + 1 ≤ ws.heap.size := by have := blk_lt hst2.s; omega
            clear hst
            go_wp2_with fail
            refine (put_any (R + 1 + 1) (R + 1) bv' bits' true wait' ws hst2.s hst2.b hRs (by omega)).mono ?_
            rintro e wp ⟨rfl, v6, hS6, hb6, hk6⟩
            have hst3 := hst2.put hS6 hb6 hk6
            have Hst3 := Lib.hid hst3
            have Htl := Lib.hid (show (bits' ++ tellB true wait').length = bits'.length + wait' + 1 by simp [tellB]; omega)
            clear hst2 hst3 hS6 hb6 hk6
            go_wp2
            go_roundg f'
            case measure => omega
            case rel => exact ⟨2 * (lo - 32768), 2 * (hi - 32768) + 1, 0, bits' ++ tellB true wait', v6, by rw [← Hw.out, wid_some hh]; rfl, Hfu2.out, by omega, by omega, by omega, by rw [Htl.out]; omega, Hst3.out⟩
          · have hb := halv_some hh h0 h1 h2
            have hsh := shift_some R lo hi 16384 wr hr h0 h1 h2 hh
            rw [show kd 16384 = 2 from rfl] at hsh
            obtain ⟨f', rfl⟩ := Hfu.out.pos h0 h2
            have Hfu2 := Lib.hid (Hfu.out.next (b := 16384))
            go_wp2_with fail
            refine hsh.mono ?_
            rintro e ws ⟨rfl, hR6, hk6⟩
            have hst2 := hst.cut hR6 hk6
            clear hsh hr hR6 hk6
            have hst3 := hst2.set (wait' + 1)
            have hsc := (blk2 hst2.s)
            obtain ⟨s0, s1, sf0, sf1⟩ := hsc
            have Hst3 := Lib.hid hst3
            clear hst hst2 hst3
            go_wp2
            go_roundg f'
            case measure => omega
            case rel => exact ⟨2 * (lo - 16384), 2 * (hi - 16384) + 1, wait' + 1, bits', bv', by rw [← Hw.out, wid_some hh]; rfl, Hfu2.out, by omega, by omega, by omega, by omega, Hst3.out⟩
    · have hke : k = zs.length := by omega
      have hq3 : bits ++ tellB (decide (16384 ≤ low)) (wait + 1) = rb gr cs zs := by rw [← Hq.out, hke, List.drop_length, rbF]
      have Hq3 := Lib.hid hq3
      obtain ⟨bt2, hbt2⟩ : ∃ bt2, decide ((16384 : Int) ≤ low) = bt2 := ⟨_, rfl⟩
      rw [hbt2] at Hq3
      have hst2 := hst.set (wait + 1)
      obtain ⟨s0, s1, sf0, sf1⟩ := blk2 hst.s
      obtain ⟨r0, r1, -, -⟩ := blk2 hst.r
      have hRne : R + 1 + 1 ≠ R := by omega
      have hRs : R + 1 ≤ (wr.setCell ⟨R + 1 + 1, 1, none⟩ (.int .i64 ((wait + 1 : Nat) : Int))).heap.size := by have := blk_lt hst2.s; omega
      have hput := put_any (R + 1 + 1) (R + 1) bv bits bt2 (wait + 1) _ hst2.s hst2.b hRs (by omega)
      clear hst hke hq3
      have hst3 : RbS w n R gk off cs.length ck (wr.setCell ⟨R + 1 + 1, 1, none⟩ (.int .i64 ((wait : Int) + 1))) cs' low high (wait + 1) bits bv := hst2
      have Hput := Lib.hid hput
      clear hst2 hput
      go_wp2_with fail
      refine (show Calls Try.prog 49 #[.pointer (some ⟨R + 1 + 1, 0, none⟩), .bool bt2] (wr.setCell ⟨R + 1 + 1, 1, none⟩ (.int .i64 ((wait : Int) + 1))) _ from Hput.out).mono ?_
      rintro e wp ⟨rfl, v6, hS6, hb6, hk6⟩
      have hst4 := hst3.put hS6 hb6 hk6
      rw [Hq3.out] at hst4
      obtain ⟨ao6, cap6, rfl⟩ := hst4.b.shape
      obtain ⟨s0', s1', -, -⟩ := blk2 hst4.s
      have hog := hst4.b.og.mono (show w.heap.size ≤ R + 1 by have := hst4.wR; omega)
      have hlo := hst4.lo
      have Hog := Lib.hid (And.intro hog hlo)
      have Hzn := Lib.hid (show rbOk gr cs zs = decide ((rb gr cs zs).length ≤ 1024) from rfl)
      have Hzz := Lib.hid (show rbZ gr cs zs = if rbOk gr cs zs = true then rb gr cs zs else [] from rfl)
      clear hst3 hst4 hS6 hb6 hk6 hog hlo s0 s1 sf0 sf1 r0 r1
      by_cases h1024 : (rb gr cs zs).length ≤ 1024
      · have Hz1 := Lib.hid (show rbOk gr cs zs = true by rw [Hzn.out]; exact decide_eq_true h1024)
        have Hz2 := Lib.hid (show rbZ gr cs zs = rb gr cs zs by rw [Hzz.out, if_pos Hz1.out])
        have hgt : ¬ (1024 : Int) < ((rb gr cs zs).length : Int) := by omega
        have hgt2 : ¬ 1024 < (rb gr cs zs).length := by omega
        generalize rb gr cs zs = rr at *
        go_wp2
        go_ret2
        exact ⟨_, ret2 rfl (vb Hz1.out.symm), by rw [Hz2.out]; exact Hog.out.1, Hog.out.2⟩
      · have Hz1 := Lib.hid (show rbOk gr cs zs = false by rw [Hzn.out]; exact decide_eq_false h1024)
        have Hz2 := Lib.hid (show rbZ gr cs zs = [] by rw [Hzz.out, if_neg (by rw [Hz1.out]; decide)])
        have hgt : (1024 : Int) < ((rb gr cs zs).length : Int) := by omega
        have hgt2 : 1024 < (rb gr cs zs).length := by omega
        generalize rb gr cs zs = rr at *
        go_wp2
        go_ret2
        exact ⟨_, ret2 rfl (vb Hz1.out.symm), by rw [Hz2.out]; exact ⟨none, 0, rfl, by simp, by unfold maxLen; omega, (fun a ha => by cases ha), fun i hi => by simp at hi⟩, Hog.out.2⟩
end Go.Proofs.Ytbhconogaoghmaa
