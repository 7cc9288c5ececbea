/- The counts that the reference draws. No conditions but those each theorem names. -/
import Derived.Test.YtbhconogaoghmaaSrc
import Derived.Test.YtbhconogaoghmaaOwn
import Derived.Test.YtbhconogaoghmaaCounts
namespace Go.Proofs.Ytbhconogaoghmaa
open Go.RowKit
set_option maxRecDepth 100000
set_option linter.unusedVariables false
set_option linter.unusedSimpArgs false

theorem box_snd (w : World) (o : Obj) (x y : Value) (t : TypeId) : ((w.alloc o).alloc (.cells #[x, y] t)).heap[w.heap.size + 1]? = some (.cells #[x, y] t (0, 0)) := by
  have := heap_alloc_new (w.alloc o) (.cells #[x, y] t); simpa using this
def DS (w0 : World) (B b : Nat) (v : Value) (l : Nat) (wr : World) (at' : Nat) (seed : Int) (v2 : Value) (zs : List Int) : Prop :=
  SrcAt wr B v at' seed ∧ wr.heap[b]? = some (.cells #[.int .i64 0, .slice none 0 0] 27 (0, 0)) ∧ wr.heap[b + 1]? = some (.cells #[.int .i64 l, v2] 27 (0, 0)) ∧ OwnI (b + 1 + 1) wr v2 zs ∧ Below w0.heap.size w0 wr
theorem DS.draw {w0 : World} {B b : Nat} {v : Value} {l : Nat} {wr w2 : World} {at1 at2 : Nat} {s1 s2 : Int} {v2 : Value} {zs : List Int} (h : DS w0 B b v l wr at1 s1 v2 zs) (hs : SrcAt w2 B v at2 s2) (hg : wr.grownBy w2 (some B)) (hB : w0.heap.size = B) (hb : B < b) : DS w0 B b v l w2 at2 s2 v2 zs :=
  ⟨hs, blk_grown hg (fun e => by have := Option.some.inj e; omega) h.2.1, blk_grown hg (fun e => by have := Option.some.inj e; omega) h.2.2.1, h.2.2.2.1.kept hg (ne_blk fun k hk => by have := (h.2.2.2.1.lt k hk).1; omega), bgrown h.2.2.2.2 hg (fun k e => by have := Option.some.inj e; omega)⟩
/-- Behind the append and the store of the box. -/
theorem DS.app {w0 : World} {B b : Nat} {v : Value} {l : Nat} {wr w1 : World} {at1 : Nat} {s1 : Int} {v2 v3 : Value} {zs zs' : List Int} {ob : Obj} (h : DS w0 B b v l wr at1 s1 v2 zs) (ho : OwnI (b + 1 + 1) w1 v3 zs') (hbl : Below w0.heap.size w0 w1) (hg : (wr.alloc ob).grownBy w1 v2.ownBlock) (hB : w0.heap.size = B) (hb : B < b) : DS w0 B b v l (w1.setCell ⟨b + 1, 1, none⟩ v3) at1 s1 v3 zs' :=
  ⟨⟨blk_other (p := ⟨b + 1, 1, none⟩) (by show b + 1 ≠ B; omega) (src_kept h.1 hg (fun k hk => by have := (h.2.2.2.1.lt k hk).1; omega)).1, h.1.2⟩,
   blk_other (p := ⟨b + 1, 1, none⟩) (by show b + 1 ≠ b; omega) (blk_grown hg (fun e => by have := (h.2.2.2.1.lt _ e.symm).1; omega) (blk_alloc h.2.1)),
   blk_set1 (blk_grown hg (fun e => by have := (h.2.2.2.1.lt _ e.symm).1; omega) (blk_alloc h.2.2.1)),
   ho.set ⟨b + 1, 1, none⟩ v3 (by show b + 1 < _; omega),
   hbl.setCell (p := ⟨b + 1, 1, none⟩) (by show _ ≤ b + 1; omega) v3⟩
set_option maxHeartbeats 4000000 in
theorem drawOk_any (w0 : World) (v : Value) (bs : List Int) (at0 : Nat) (seed0 : Int) (l : Nat) (w : World) (h : RB w0 v bs) (hs : SrcAt w w0.heap.size v at0 seed0) (hb : Below w0.heap.size w0 w) (ha : at0 ≤ 1000) (hl : bs.length ≤ 1099511627776) (hl2 : l ≤ 64) :
    Calls Try.prog 26 #[.pointer (some ⟨w0.heap.size, 0, none⟩), .int .i64 l] w fun e w' => ∃ v' zs, e = .returned (.agg #[.int .i64 l, v']) ∧ OwnI (w.heap.size + 1 + 1) w' v' zs ∧ zs.length = l ∧ (∀ z ∈ zs, 1 ≤ z ∧ z ≤ 900) ∧ Below w0.heap.size w0 w' := by
  obtain ⟨B, hBe⟩ : ∃ B, w0.heap.size = B := ⟨_, rfl⟩
  have HBe := Lib.hid hBe
  have H := Lib.hid h
  rw [hBe] at hs
  rw [hBe]
  have hBlt : B < w.heap.size := blk_lt hs.1
  have HD := Lib.hid (show DS w0 B w.heap.size v l ((w.alloc (.cells #[.int .i64 0, .slice none 0 0] 27)).alloc (.cells #[.int .i64 l, .slice none 0 0] 27)) at0 seed0 (.slice none 0 0) [] from
    ⟨⟨blk_alloc (blk_alloc hs.1), hs.2⟩, blk_alloc (heap_alloc_new _ _), box_snd _ _ _ _ _, own_nil _ _, by have := hb.size; exact (hb.alloc this _).alloc (by simp; omega) _⟩)
  clear hBe h hs hb
  go_enter Try.func26, Try.ntmps26
  go_wp2
  go_loopw [6] (fun iv wr => ∃ (k at' : Nat) (seed : Int) (v2 : Value) (zs : List Int), iv = .int .i64 k ∧ k ≤ l ∧ zs.length = k ∧ at' ≤ at0 + 6 * k ∧ (∀ z ∈ zs, 1 ≤ z ∧ z ≤ 900) ∧ DS w0 B w.heap.size v l wr at' seed v2 zs) (fun iv _ => l - (intOf iv).toNat)
  case atStart => exact ⟨0, at0, seed0, .slice none 0 0, [], rfl, Nat.zero_le _, rfl, by omega, (fun z hz => by cases hz), HD.out⟩
  case round =>
    clear HD
    obtain ⟨k, at', seed, v2, zs, rfl, hk, hzl, hat, hz, hd⟩ := hrel
    have Hz := Lib.hid hz
    have Hzl := Lib.hid hzl
    have hzl2 : zs.length ≤ l := by omega
    have HD := Lib.hid hd
    clear hz hzl hd
    by_cases hlt : k < l
    · have hltI : (k : Int) < (l : Int) := by omega
      have HP := Lib.hid (pick_any B _ bs at' seed 9 wr (H.out.below HD.out.2.2.2.2) HD.out.1 (by omega) hl (by omega))
      go_wp2_with fail
      refine HP.out.mono ?_
      rintro e w2 ⟨y, at2, seed2, ⟨hy0, hy1⟩, rfl, hs2, hat2, hg2⟩
      have hy8 : y ≤ 8 := by omega
      have HD2 := Lib.hid (HD.out.draw hs2 hg2 HBe.out hBlt)
      clear hs2 hg2 HP HD hy1
      have HO := Lib.hid (one_any B _ bs at2 seed2 6 w2 (H.out.below HD2.out.2.2.2.2) HD2.out.1 (by omega) hl (by omega))
      go_wp2_with fail
      refine HO.out.mono ?_
      rintro e w3 ⟨b, at3, seed3, rfl, hs3, hat3, hg3⟩
      have HD3 := Lib.hid (HD2.out.draw hs3 hg3 HBe.out hBlt)
      clear hs3 hg3 HO HD2
      cases b with
      | true =>
        have HQ := Lib.hid (pick_any B _ bs at3 seed3 900 w3 (H.out.below HD3.out.2.2.2.2) HD3.out.1 (by omega) hl (by omega))
        go_wp2_with fail
        refine HQ.out.mono ?_
        rintro e w4 ⟨u, at4, seed4, ⟨hu0, hu1⟩, rfl, hs4, hat4, hg4⟩
        have hu8 : u ≤ 899 := by omega
        have HD4 := Lib.hid (HD3.out.draw hs4 hg4 HBe.out hBlt)
        clear hs4 hg4 HQ HD3 hu1
        obtain ⟨hs4, hr, hc, hown, hB⟩ := HD4.out
        obtain ⟨c0, c1, c2, c3⟩ := blk2 hc
        have hsz := blk_lt hc
        obtain ⟨ao, cap, rfl⟩ := hown.shape
        have hwb : w0.heap.size ≤ w.heap.size + 1 + 1 := by have := HBe.out; omega
        clear hs4 hr hc
        go_wp2_with (at_builtin; go_must (refine app_ints rfl _ _ rfl (w.heap.size + 1 + 1) w0.heap.size hwb (.slice ao zs.length cap) zs rfl hown hB _ _ [1 + u] rfl rfl (by simp; omega) (by omega) ?_))
        intro v1 w1 hown1 hB1 hg1
        have HE := Lib.hid (HD4.out.app hown1 hB1 hg1 HBe.out hBlt)
        have Hz1 := Lib.hid (show ∀ z ∈ zs ++ [1 + u], 1 ≤ z ∧ z ≤ 900 from fun z hz => by rcases List.mem_append.1 hz with hz | hz; exact Hz.out z hz; obtain rfl := List.mem_singleton.1 hz; omega)
        have Hl1 := Lib.hid (show (zs ++ [1 + u]).length = k + 1 by rw [List.length_append, List.length_singleton, Hzl.out])
        obtain ⟨d0, d1, d2, d3⟩ := blk2 (blk_grown hg1 (fun e => by have := (hown.lt _ e.symm).1; omega) (blk_alloc HD4.out.2.2.1))
        obtain ⟨ao1, cap1, rfl⟩ := hown1.shape
        clear hown1 hg1 hB1 hown hB HD4 c0 c1 c2 c3
        generalize zs ++ [1 + u] = zs1 at *
        go_wp2
        go_roundw
        case rel => exact ⟨k + 1, at4, seed4, _, zs1, by go_num, by omega, Hl1.out, by omega, Hz1.out, HE.out⟩
        case measure => simp [intOf] <;> omega
      | false =>
        obtain ⟨hs3, hr, hc, hown, hB⟩ := HD3.out
        obtain ⟨c0, c1, c2, c3⟩ := blk2 hc
        have hsz := blk_lt hc
        obtain ⟨ao, cap, rfl⟩ := hown.shape
        have hwb : w0.heap.size ≤ w.heap.size + 1 + 1 := by have := HBe.out; omega
        clear hs3 hr hc
        go_wp2_with (at_builtin; go_must (refine app_ints rfl _ _ rfl (w.heap.size + 1 + 1) w0.heap.size hwb (.slice ao zs.length cap) zs rfl hown hB _ _ [1 + y] rfl rfl (by simp; omega) (by omega) ?_))
        intro v1 w1 hown1 hB1 hg1
        have HE := Lib.hid (HD3.out.app hown1 hB1 hg1 HBe.out hBlt)
        have Hz1 := Lib.hid (show ∀ z ∈ zs ++ [1 + y], 1 ≤ z ∧ z ≤ 900 from fun z hz => by rcases List.mem_append.1 hz with hz | hz; exact Hz.out z hz; obtain rfl := List.mem_singleton.1 hz; omega)
        have Hl1 := Lib.hid (show (zs ++ [1 + y]).length = k + 1 by rw [List.length_append, List.length_singleton, Hzl.out])
        obtain ⟨d0, d1, d2, d3⟩ := blk2 (blk_grown hg1 (fun e => by have := (hown.lt _ e.symm).1; omega) (blk_alloc HD3.out.2.2.1))
        obtain ⟨ao1, cap1, rfl⟩ := hown1.shape
        clear hown1 hg1 hB1 hown hB HD3 c0 c1 c2 c3
        generalize zs ++ [1 + y] = zs1 at *
        go_wp2
        go_roundw
        case rel => exact ⟨k + 1, at3, seed3, _, zs1, by go_num, by omega, Hl1.out, by omega, Hz1.out, HE.out⟩
        case measure => simp [intOf] <;> omega
    · obtain rfl : k = l := by omega
      obtain ⟨-, hr, hc, hown, hB⟩ := HD.out
      obtain ⟨r0, r1, r2, r3⟩ := blk2 hr
      obtain ⟨c0, c1, c2, c3⟩ := blk2 hc
      have hsz := blk_lt hc
      obtain ⟨ao, cap, rfl⟩ := hown.shape
      have ho := (hown.set ⟨w.heap.size, 0, none⟩ (.int .i64 k) (by show w.heap.size < _; omega)).set ⟨w.heap.size, 1, none⟩ (.slice ao zs.length cap) (by show w.heap.size < _; omega)
      have hbw : w0.heap.size ≤ w.heap.size := by have := HBe.out; omega
      have hB2 := (hB.setCell (p := ⟨w.heap.size, 0, none⟩) hbw (.int .i64 k)).setCell (p := ⟨w.heap.size, 1, none⟩) hbw (.slice ao zs.length cap)
      have HF := Lib.hid (And.intro ho hB2)
      clear ho hB2 hown hB hr hc HD
      go_wp2
      exact bodyPost_ret (v := .agg #[.int .i64 k, .slice ao zs.length cap]) (by simp [results, Try.results26, go_sem, r0, r1]) rfl ⟨_, zs, rfl, HF.out.1, Hzl.out, Hz.out, by have h := HF.out.2; rw [HBe.out] at h; exact h⟩
set_option maxHeartbeats 2000000 in
theorem b10Counts_any (v : Value) (bs : List Int) (l : Nat) (w : World) (h : RB w v bs) (hl : bs.length ≤ 1099511627776) (hl2 : l ≤ 64) :
    Calls Try.prog 6 #[v, .int .i64 l] w fun e w' => ∃ v' zs, e = .returned (.agg #[.int .i64 l, v']) ∧ OI w.heap.size w' v' zs ∧ zs.length = l ∧ (∀ z ∈ zs, 1 ≤ z ∧ z ≤ 900) ∧ Below w.heap.size w w' := by
  obtain ⟨w0, hw0⟩ : ∃ w0, w.alloc (.cells #[.int .i64 0, .slice none 0 0] 27) = w0 := ⟨_, rfl⟩
  have hb0 : Below w.heap.size w w0 := by rw [← hw0]; go_grown
  have hn0 : w0.heap[w.heap.size]? = some (.cells #[.int .i64 0, .slice none 0 0] 27 (0, 0)) := by rw [← hw0]; exact heap_alloc_new _ _
  have Hs0 := Lib.hid (show w0.heap.size = w.heap.size + 1 by rw [← hw0]; simp)
  have H0 := Lib.hid (h.below hb0)
  have HF := Lib.hid (from_any v bs w0 H0.out)
  go_enter Try.func6, Try.ntmps6
  go_wp2_with fail
  refine HF.out.mono ?_
  rintro e w1 ⟨rfl, hs1, hb1⟩
  have hn1 := blk_next hb1 hn0
  have hsz1 := hb1.size
  have HG := Lib.hid (drawOk_any w0 v bs 0 0 l w1 H0.out hs1 hb1 (by omega) hl hl2)
  have HB0 := Lib.hid hb0
  clear hs1 hb1 HF hw0 hb0
  go_wp2_with fail
  refine HG.out.mono ?_
  rintro e w2 ⟨v2, zs, rfl, ho2, hzl, hz, hb2⟩
  have hz1 : w.heap.size < w1.heap.size := by have := Hs0.out; omega
  have hn2 : w2.heap[w.heap.size]? = some (.cells #[.int .i64 0, .slice none 0 0] 27 (0, 0)) := (hb2.block _ (by have := Hs0.out; omega)).trans hn0
  obtain ⟨r0, r1, r2, r3⟩ := blk2 hn2
  obtain ⟨ao, cap, rfl⟩ := ho2.shape
  have hbw : w.heap.size ≤ w.heap.size := Nat.le_refl _
  have hB2 := ((bnext HB0.out hb2).setCell (p := ⟨w.heap.size, 0, none⟩) hbw (.int .i64 l)).setCell (p := ⟨w.heap.size, 1, none⟩) hbw (.slice ao zs.length cap)
  have ho := ((ho2.set ⟨w.heap.size, 0, none⟩ (.int .i64 l) (by show w.heap.size < _; omega)).set ⟨w.heap.size, 1, none⟩ (.slice ao zs.length cap) (by show w.heap.size < _; omega)).oi (fun z hy => by have := hz z hy; constructor <;> omega)
  have HO := Lib.hid (And.intro (OI.mono (by omega) ho : OI w.heap.size _ _ _) (And.intro hzl (And.intro hz hB2)))
  clear ho hB2 ho2 hz hzl hb2 hn2 hn1 hn0 HG HB0
  go_wp2
  exact bodyPost_ret (v := .agg #[.int .i64 l, .slice ao zs.length cap]) (by simp [results, Try.results6, go_sem, r0, r1]) rfl ⟨_, zs, rfl, HO.out.1, HO.out.2.1, HO.out.2.2.1, HO.out.2.2.2⟩
end Go.Proofs.Ytbhconogaoghmaa
