/- The rows and channels that the statements draw. Conditions: the slice reads as bytes, few letters. -/
import Derived.Test.YtiejljlmbpgbiaaB10C
import Derived.Test.YtiejljlmbpgbiaaChnS
namespace Go.Proofs.Ytiejljlmbpgbiaa
open Go.RowKit
set_option maxRecDepth 100000
set_option linter.unusedVariables false
set_option linter.unusedSimpArgs false
attribute [local go_sem] run_store_flt

def GvC (n : Nat) (w : World) (e : Ending) (w' : World) : Prop := ∃ v' cs, e = .returned v' ∧ Og eF w.heap.size w' v' (rwL cs) ∧ cs.length = n ∧ Prt cs ∧ Below w.heap.size w w'
theorem RB.drew' {w : World} {v : Value} {bs : List Int} (h : RB w v bs) : RB w.drew v bs := h.below ((Below.refl _ _).drew)
theorem below_src {w w1 w2 : World} (h : Below w.heap.size w w1) (hg : w1.grownBy w2 (some w.heap.size)) : Below w.heap.size w w2 := bgrown h hg (fun k e => by cases e; exact Nat.le_refl _)
set_option maxHeartbeats 2000000 in
theorem b10Chs_any (v : Value) (bs : List Int) (n : Nat) (w : World) (h : RB w v bs) (hl : bs.length ≤ 1099511627776) (hn1 : 1 ≤ n) (hn : n ≤ 8) :
    Calls Try.prog 8 #[v, .int .i64 n] w (GvC n w) := by
  have HF := Lib.hid (from_any v bs w h)
  have H := Lib.hid h
  obtain ⟨ao, cap, rfl⟩ := h.shape
  clear h
  go_enter Try.func8, Try.ntmps8
  go_wp2_with fail
  refine HF.out.mono ?_
  rintro e w1 ⟨rfl, hs1, hb1⟩
  have HD := Lib.hid (b10Ch_any w.heap.size _ bs 0 0 n w1 (H.out.below hb1) hs1 (by omega) hl hn1 hn)
  have HB := Lib.hid hb1
  clear hs1 hb1 HF
  go_wp2_with fail
  refine HD.out.mono ?_
  rintro e w2 ⟨v2, cs, at2, seed2, rfl, ho, hcl, hp, -, -, hg⟩
  have HO := Lib.hid (And.intro (Og.mono HB.out.size ho) (And.intro hcl (And.intro hp (below_src HB.out hg))))
  obtain ⟨ao2, cap2, rfl⟩ := ho.rg.shape
  clear ho hcl hp hg HD
  go_wp2
  go_ret
  exact ⟨_, cs, rfl, HO.out.1, HO.out.2.1, HO.out.2.2.1, HO.out.2.2.2⟩
/-- Rows of quotients, one behind the other. -/
def rwsL (rs : List (List Int)) : List Nat := rs.flatMap rwL
theorem rwsL_snoc (rs : List (List Int)) (cs : List Int) : rwsL (rs ++ [cs]) = rwsL rs ++ rwL cs := by simp [rwsL]
theorem rwL_len (cs : List Int) : (rwL cs).length = cs.length := by simp [rwL]
theorem rwsL_len (rs : List (List Int)) (m : Nat) (h : ∀ r ∈ rs, r.length = m) : (rwsL rs).length = rs.length * m := by
  induction rs with
  | nil => simp [rwsL]
  | cons r rs ih =>
    have h1 := h r (by simp)
    have h2 := ih fun y hy => h y (List.mem_cons_of_mem _ hy)
    show (rwL r ++ rwsL rs).length = _
    rw [List.length_append, h2, rwL_len, h1, List.length_cons, Nat.add_mul, Nat.one_mul, Nat.add_comm]
structure BcS (w : World) (B C : Nat) (v : Value) (n m : Int) (wr : World) (at' : Nat) (seed : Int) (out : Value) (xs : List Nat) : Prop where
  s : SrcAt wr B v at' seed
  r : wr.heap[w.heap.size]? = some (.cells #[.int .i64 0, .int .i64 0, .slice none 0 0] 27 (0, 0))
  c : wr.heap[C]? = some (.cells #[.int .i64 n, .int .i64 m, out] 27 (0, 0))
  o : OwnF (C + 1) wr out xs
  b : Below w.heap.size w wr
  hB : w.heap.size < B
  hC : B < C
theorem BcS.step {w : World} {B C : Nat} {v : Value} {n m : Int} {wr w4 w5 : World} {at' at2 : Nat} {seed seed2 : Int} {out out' : Value} {xs xs' : List Nat} (h : BcS w B C v n m wr at' seed out xs) (hs : SrcAt w4 B v at2 seed2) (hg4 : wr.grownBy w4 (some B)) (ho : OwnF (C + 1) w5 out' xs') (hg5 : w4.grownBy w5 out.ownBlock) :
    w5.heap[C]? = some (.cells #[.int .i64 n, .int .i64 m, out] 27 (0, 0)) ∧ BcS w B C v n m (w5.setCell ⟨C, 2, none⟩ out') at2 seed2 out' xs' := by
  have hB := h.hB
  have hC := h.hC
  have hne : ∀ b, b ≤ C → some b ≠ out.ownBlock := fun b hb e => by have := (World.ownsRow.lt h.o b e.symm).1; omega
  have c4 := blk_grown hg4 (fun e => by have := Option.some.inj e; omega) h.c
  have c5 := blk_grown hg5 (hne C (Nat.le_refl _)) c4
  have r4 := blk_grown hg4 (fun e => by have := Option.some.inj e; omega) h.r
  have r5 := blk_grown hg5 (hne _ (by omega)) r4
  have s5 := blk_grown hg5 (hne B (by omega)) hs.1
  have b4 := bgrown h.b hg4 (fun k e => by have := Option.some.inj e; omega)
  have b5 := bgrown b4 hg5 (fun k e => by have := (World.ownsRow.lt h.o k e).1; omega)
  refine ⟨c5, ⟨blk_other (p := ⟨C, 2, none⟩) (by show C ≠ B; omega) s5, hs.2⟩, blk_other (p := ⟨C, 2, none⟩) (by show C ≠ w.heap.size; omega) r5, heap_setCell_same w5 C 2 #[.int .i64 n, .int .i64 m, out] _ out' c5, ?_, b5.setCell (p := ⟨C, 2, none⟩) (by show w.heap.size ≤ C; omega) _, hB, hC⟩
  refine World.ownsRow.kept ho (grown_setCell w5 ⟨C, 2, none⟩ out') ?_
  cases hv : out'.ownBlock with
  | none => exact .inl rfl
  | some k => right; intro e; have := (World.ownsRow.lt ho k hv).1; simp at e; omega
def GvH (n m : Nat) (w : World) (e : Ending) (w' : World) : Prop := ∃ v' rs, e = .returned (.agg #[.int .i64 n, .int .i64 m, v']) ∧ Og eF w.heap.size w' v' (rwsL rs) ∧ rs.length = n ∧ (∀ r ∈ rs, r.length = m ∧ Prt r) ∧ Below w.heap.size w w'
set_option maxHeartbeats 4000000 in
theorem b10Cha_any (v : Value) (bs : List Int) (n m : Nat) (w : World) (h : RB w v bs) (hl : bs.length ≤ 1099511627776) (hn1 : 1 ≤ n) (hn : n ≤ 8) (hm1 : 1 ≤ m) (hm : m ≤ 8) :
    Calls Try.prog 7 #[v, .int .i64 n, .int .i64 m] w (GvH n m w) := by
  obtain ⟨w0, hw0⟩ : ∃ w0, w.alloc (.cells #[.int .i64 0, .int .i64 0, .slice none 0 0] 27) = w0 := ⟨_, rfl⟩
  have hb0 : Below w.heap.size w w0 := by rw [← hw0]; go_grown
  have hn0 : w0.heap[w.heap.size]? = some (.cells #[.int .i64 0, .int .i64 0, .slice none 0 0] 27 (0, 0)) := by rw [← hw0]; exact heap_alloc_new _ _
  have Hs0 := Lib.hid (show w0.heap.size = w.heap.size + 1 by rw [← hw0]; simp)
  have H0 := Lib.hid (h.below hb0)
  have H := Lib.hid h
  have HF := Lib.hid (from_any v bs w0 H0.out)
  obtain ⟨ao, cap, rfl⟩ := h.shape
  clear h
  go_enter Try.func7, Try.ntmps7
  go_wp2_with fail
  refine HF.out.mono ?_
  rintro e w1 ⟨rfl, hs1, hb1⟩
  obtain ⟨C, hC⟩ : ∃ C, w1.heap.size = C := ⟨_, rfl⟩
  obtain ⟨B, hBe⟩ : ∃ B, w0.heap.size = B := ⟨_, rfl⟩
  have hst0 : BcS w B C (.slice ao bs.length cap) n m (w1.alloc (.cells #[.int .i64 n, .int .i64 m, .slice none 0 0] 27)) 0 0 (.slice none 0 0) [] := by
    have hBs := Hs0.out
    have hlt := blk_lt hs1.1
    rw [← hC, ← hBe]
    exact ⟨⟨blk_alloc hs1.1, hs1.2⟩, blk_alloc (blk_next hb1 hn0), heap_alloc_new _ _, ownF_nil _ _, (bnext hb0 hb1).alloc (by have := (bnext hb0 hb1).size; exact this) _, by omega, by omega⟩
  have HS := Lib.hid hst0
  have HCe := Lib.hid hC
  rw [hBe] at hs1 ⊢
  clear hst0 hs1 hb1 hn0 hb0 hw0 HF hC
  go_wp2_with fail
  rw [HCe.out]
  go_loopw [9] (fun kv wr => ∃ (k at' : Nat) (seed : Int) (out : Value) (rs : List (List Int)), kv = .int .i64 k ∧ k ≤ n ∧ rs.length = k ∧ (∀ r ∈ rs, r.length = m ∧ Prt r) ∧ at' ≤ 16 * k ∧ BcS w B C (.slice ao bs.length cap) n m wr at' seed out (rwsL rs)) (fun kv _ => n - (intOf kv).toNat)
  case atStart => exact ⟨0, 0, 0, _, [], rfl, Nat.zero_le _, rfl, (fun r hr => by cases hr), by omega, HS.out⟩
  case round =>
    clear HS
    obtain ⟨k, at', seed, out, rs, rfl, hk, hrl, hrs, hat, hst⟩ := hrel
    have HS := Lib.hid hst
    have Hrl := Lib.hid hrl
    have Hrs := Lib.hid hrs
    have hlen := Lib.hid (rwsL_len rs m (fun r hr => (hrs r hr).1))
    obtain ⟨ao2, cap2, rfl⟩ := hst.o.shape
    obtain ⟨c0, c1, c2, f0, f1, f2⟩ := cell3 hst.c
    have hBC := hst.hB
    have hCB := hst.hC
    have hCs : C < wr.heap.size := blk_lt hst.c
    have hBs : B < wr.heap.size := by omega
    clear hst hrl hrs
    by_cases hkn : k < n
    · have hknI : (k : Int) < (n : Int) := by omega
      have hcall := b10Ch_any B _ bs at' seed m wr.drew (H.out.below HS.out.b).drew' ⟨HS.out.s.1, HS.out.s.2⟩ (by omega) hl hm1 hm
      have Hcall := Lib.hid hcall
      clear hcall
      go_wp2_with fail
      refine wp_region_held_tail 5 (S := fun W' => W'.cell? ⟨C, 2, none⟩ = some (.slice ao2 (rwsL rs).length cap2)) (by kernel_rfl) (by decide +kernel) ?_ (fun hHeld => ?_)
      · exact c2
      simp only [List.take_succ_cons, List.take_zero, List.drop_succ_cons, List.drop_zero, List.length_cons, List.length_nil, Nat.reduceAdd]
      refine wpAnyH_tk (i := 0) (v := ?_) (some 20) rfl rfl (by kernel_rfl) (by decide +kernel) (by decide +kernel) (fun _ _ _ h => h) (by kernel_rfl) ?_ hHeld ?_
      rotate_left
      · (intro w hSw; (try dsimp only at hSw); go_simp <;> with_reducible rfl)
      (try simp only [Act.put, List.setIfInBounds_toArray, List.set_cons_zero, List.set_cons_succ])
      refine wpAnyH_tk (i := 1) (v := ?_) (some 21) rfl rfl (by kernel_rfl) (by decide +kernel) (by decide +kernel) (fun _ _ _ h => h) (by kernel_rfl) ?_ hHeld ?_
      rotate_left
      · (intro w hSw; (try dsimp only at hSw); go_simp <;> with_reducible rfl)
      (try simp only [Act.put, List.setIfInBounds_toArray, List.set_cons_zero, List.set_cons_succ])
      refine wpAnyH_tk (i := 2) (v := ?_) (some 22) rfl rfl (by kernel_rfl) (by decide +kernel) (by decide +kernel) (fun _ _ _ h => h) (by kernel_rfl) ?_ hHeld ?_
      rotate_left
      · (intro w hSw; (try dsimp only at hSw); go_simp <;> with_reducible rfl)
      (try simp only [Act.put, List.setIfInBounds_toArray, List.set_cons_zero, List.set_cons_succ])
      refine wpAnyH_tk (i := 3) (v := ?_) (some 23) rfl rfl (by kernel_rfl) (by decide +kernel) (by decide +kernel) (fun _ _ _ h => h) (by kernel_rfl) ?_ hHeld ?_
      rotate_left
      · (intro w hSw; (try dsimp only at hSw); go_simp <;> with_reducible rfl)
      (try simp only [Act.put, List.setIfInBounds_toArray, List.set_cons_zero, List.set_cons_succ])
      refine wpAnyH_ready (rs := [4]) (by kernel_rfl) (by simp) ?_
      refine AllReadyH.cons rfl (fun K hK => ?_) AllReadyH.nil
      go_simp
      with_reducible refine Calls.mono Hcall.out ?_
      rintro e w4 ⟨v4, cs, at2, seed2, rfl, ho4, hc4l, hp4, hs4, hat4, hg4⟩
      have Hcs := Lib.hid (And.intro hc4l hp4)
      have Hs4 := Lib.hid hs4
      have hg4' : wr.grownBy w4 (some B) := ⟨hg4.os, hg4.tape, hg4.output, hg4.size, hg4.block⟩
      have Hg4 := Lib.hid hg4'
      have hsz4 : C < w4.heap.size := Nat.lt_of_lt_of_le hCs hg4'.size
      have HB4 := Lib.hid (below0 (World.grownBy.refl w4 none))
      have HO4 := Lib.hid (World.ownsRow.kept HS.out.o hg4' (by
        cases hv : (Value.slice ao2 (rwsL rs).length cap2).ownBlock with
        | none => exact .inl rfl
        | some k => right; intro e; have := (World.ownsRow.lt HS.out.o k hv).1; have := Option.some.inj e; omega))
      obtain ⟨a4, p4, rfl, -, -, -, hcs4⟩ := ho4
      obtain ⟨b4, o4, rfl, -, -⟩ := hcs4 0 (by rw [rwL_len, hc4l]; omega)
      have Hc4 := Lib.hid (show ∀ j (_ : j < (rwL cs).length), w4.cell? ⟨b4, o4 + j, none⟩ = some (eF (rwL cs)[j]) from fun j hj => by
        obtain ⟨b, o, e, hc, -⟩ := hcs4 j hj
        simp only [Option.some.injEq, Addr.mk.injEq, and_true] at e
        obtain ⟨rfl, rfl⟩ := e
        exact hc)
      have hcC := hg4'.cell c2 (by intro e; have e2 : C = B := Option.some.inj e; omega)
      clear hcs4 hc4l hp4 hs4 hg4'
      try go_wp2_with fail
      refine hK.out _ _ ?_ (fun hHeld => ?_)
      · exact hcC
      clear hK K
      (try simp only [Act.put, List.setIfInBounds_toArray, List.set_cons_zero, List.set_cons_succ])
      refine wpAnyH_done (by kernel_rfl) ?_ _
      show wpList _ _ _ _ _ _
      go_wp2_with (at_builtin; go_must (refine app_fsrc rfl _ _ rfl (C + 1) 0 (Nat.zero_le _) (.slice ao2 (rwsL rs).length cap2) (rwsL rs) rfl HO4.out HB4.out (rwL cs) ⟨b4, o4, none⟩ p4 rfl (fun j hj => by rw [Addr.add_lit]; exact Hc4.out j hj) (by rw [hlen.out, rwL_len]; have := Hcs.out.1; have := Nat.mul_le_mul (show rs.length ≤ 8 by have := Hrl.out; omega) hm; omega) (by omega) ?_))
      intro v5 w5 hown5 hB5 hg5
      rw [← rwsL_snoc] at hown5
      obtain ⟨xs5, hx5⟩ : ∃ x, rwsL (rs ++ [cs]) = x := ⟨_, rfl⟩
      rw [hx5] at hown5
      have Hx5 := Lib.hid hx5
      have hS := HS.out.step Hs4.out Hg4.out hown5 hg5
      obtain ⟨ao5, cap5, rfl⟩ := hown5.shape
      obtain ⟨d0, d1, d2, e0, e1, e2⟩ := cell3 hS.1
      have HS5 := Lib.hid hS.2
      have Hl5 := Lib.hid (show (rs ++ [cs]).length = k + 1 by rw [List.length_append, List.length_singleton, Hrl.out])
      have Hr5 := Lib.hid (show ∀ r ∈ rs ++ [cs], r.length = m ∧ Prt r from fun r hr => by
        rcases List.mem_append.1 hr with hr | hr
        · exact Hrs.out r hr
        · obtain rfl := List.mem_singleton.1 hr; exact Hcs.out)
      clear hown5 hB5 hg5 hS HB4 HO4 Hs4 Hg4 Hc4 hx5
      go_wp2
      go_roundw
      case rel => exact ⟨k + 1, at2, seed2, _, rs ++ [cs], by go_num, by omega, Hl5.out, Hr5.out, by omega, by rw [Hx5.out]; exact HS5.out⟩
      case measure => simp [intOf]; omega
    · have hknI : ¬ (k : Int) < (n : Int) := by omega
      obtain ⟨r0, r1, r2, q0, q1, q2⟩ := cell3 HS.out.r
      have hfB := below3 HS.out.b w.heap.size (Nat.le_refl _) (.int .i64 n) (.int .i64 m) (.slice ao2 (rwsL rs).length cap2)
      have hfO := (Og.mono (show w.heap.size + 1 ≤ C + 1 by omega) HS.out.o.og).box3 w.heap.size (by omega) (.int .i64 n) (.int .i64 m) (.slice ao2 (rwsL rs).length cap2)
      have HF := Lib.hid (And.intro (Og.mono (Nat.le_succ w.heap.size) hfO) hfB)
      have hkn2 : k = n := by omega
      have Hkn := Lib.hid hkn2
      clear hfB hfO hkn2
      go_wp2
      exact bodyPost_ret (v := .agg #[.int .i64 n, .int .i64 m, .slice ao2 (rwsL rs).length cap2]) (by simp [results, Try.results7, go_sem, r0, r1, r2]) rfl ⟨_, rs, rfl, HF.out.1, by rw [Hrl.out, Hkn.out], Hrs.out, HF.out.2⟩
end Go.Proofs.Ytiejljlmbpgbiaa
