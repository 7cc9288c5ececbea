/- SpreadTable: what both packages return. No conditions but that the slices read. -/
import Derived.Test.YtnhcoggjnbldiaaShares
import Derived.Test.YtnhcoggjnbldiaaMem
namespace Go.Proofs.Ytnhcoggjnbldiaa
open Go.RowKit
set_option maxRecDepth 100000
set_option linter.unusedVariables false
set_option linter.unusedSimpArgs false

structure Sp where
  pl : Nat
  out : List Int
def spI (N st : Nat) (L : Int) : Nat → Sp → Sp
  | 0, s => s
  | c + 1, s => spI N st L c ⟨(s.pl + st) % N, s.out.set s.pl L⟩
def spO (N st : Nat) : Nat → List Int → Sp → Sp
  | _, [], s => s
  | i, z :: zs, s => spO N st (i + 1) zs (spI N st (i : Int) z.toNat s)
def stp (n : Nat) : Nat := if 4 ≤ n then 5 * 2 ^ n / 8 + 3 else 1
def spr (n : Nat) (zs : List Int) : List Int := (spO (2 ^ n) (stp n) 0 zs ⟨0, List.replicate (2 ^ n) 0⟩).out
theorem spI_ok (N st : Nat) (hN : 0 < N) (L : Int) (c : Nat) (s : Sp) (hp : s.pl < N) : (spI N st L c s).pl < N ∧ (spI N st L c s).out.length = s.out.length := by
  induction c generalizing s with
  | zero => exact ⟨hp, rfl⟩
  | succ c ih =>
    rw [spI]
    have := ih ⟨(s.pl + st) % N, s.out.set s.pl L⟩ (Nat.mod_lt _ hN)
    exact ⟨this.1, this.2.trans (List.length_set ..)⟩
theorem spO_ok (N st : Nat) (hN : 0 < N) (i : Nat) (zs : List Int) (s : Sp) (hp : s.pl < N) : (spO N st i zs s).pl < N ∧ (spO N st i zs s).out.length = s.out.length := by
  induction zs generalizing i s with
  | nil => exact ⟨hp, rfl⟩
  | cons z zs ih =>
    rw [spO]
    have h1 := spI_ok N st hN (i : Int) z.toNat s hp
    have h2 := ih (i + 1) _ h1.1
    exact ⟨h2.1, h2.2.trans h1.2⟩
theorem spr_len (n : Nat) (zs : List Int) : (spr n zs).length = 2 ^ n := by
  unfold spr; rw [(spO_ok _ _ (Nat.two_pow_pos n) 0 zs _ (Nat.two_pow_pos n)).2, List.length_replicate]
theorem spI_in {M : Int} (N st : Nat) {L : Int} (hL : 0 ≤ L ∧ L ≤ M) (c : Nat) (s : Sp) (h : Small M s.out) : Small M (spI N st L c s).out := by
  induction c generalizing s with
  | zero => exact h
  | succ c ih =>
    rw [spI]
    refine ih _ fun z hz => ?_
    rcases List.mem_or_eq_of_mem_set hz with hz | rfl
    · exact h z hz
    · exact hL
theorem spO_in {M : Int} (N st i : Nat) (zs : List Int) (hM : (i : Int) + zs.length ≤ M) (s : Sp) (h : Small M s.out) : Small M (spO N st i zs s).out := by
  induction zs generalizing i s with
  | nil => exact h
  | cons z zs ih =>
    rw [List.length_cons] at hM
    rw [spO]
    exact ih (i + 1) (by omega) _ (spI_in N st (by omega) _ _ h)
theorem spr_in (n : Nat) (zs : List Int) : Small zs.length (spr n zs) := spO_in _ _ 0 zs (by simp) _ fun z hz => by
  rw [List.eq_of_mem_replicate hz]; omega
theorem small_i64 {M : Int} {zs : List Int} (h : Small M zs) (hM : M ≤ 9223372036854775807) : AllI64 zs := fun z hz => by
  have := h z hz
  constructor <;> omega
theorem shs_parts {p : Int} {zs : List Int} (h : shs p zs = true) : ∃ n : Nat, p = n ∧ 1 ≤ n ∧ n ≤ 8 ∧ 2 ≤ zs.length ∧ zs.length ≤ 16 ∧ (∀ z ∈ zs, 1 ≤ z ∧ z ≤ 256) ∧ sumL zs = 2 ^ n := by
  simp only [shs, sgn, inB, Bool.and_eq_true, decide_eq_true_eq, beq_iff_eq] at h
  obtain ⟨⟨h1, h2⟩, ⟨h3, h4⟩, h5, h6⟩ := h
  obtain ⟨n, rfl⟩ := Int.eq_ofNat_of_zero_le (show 0 ≤ p by omega)
  exact ⟨n, rfl, by omega, by omega, by omega, by omega, (allIn_iff _ _ _).1 h5, by rw [h6, Int.toNat_natCast]⟩
def stN (p : Int) (zs : List Int) : List Int := if shs p zs = true then spr p.toNat zs else []
theorem stN_len (p : Int) (zs : List Int) : (stN p zs).length ≤ 16777216 := by
  unfold stN; split
  · obtain ⟨n, rfl, _, h8, _⟩ := shs_parts ‹_›
    rw [Int.toNat_natCast, spr_len]
    exact Nat.le_trans (Nat.pow_le_pow_right (by decide) h8) (by decide)
  · simp
theorem made_ob {W w' : World} {n : Nat} (h0 : 0 < n) (hown : w'.ownsRow W.heap.size 2 1 (.slice (some ⟨W.heap.size, 0, none⟩) n n) n (madeCells #[Value.int .i64 0] n).toList) :
    OB (Value.int .i64) W.heap.size w' W.heap.size 0 n n (List.replicate n (0 : Int)) := by
  have e : (madeCells #[Value.int .i64 0] n).toList = List.replicate n (Value.int .i64 0) := by
    have := toList_madeCells_one (Value.int .i64 0) n; simpa using this
  rw [e] at hown
  have h : Og (Value.int .i64) W.heap.size w' (.slice (some ⟨W.heap.size, 0, none⟩) n n) (List.replicate n (0 : Int)) := by
    have h2 : w'.ownsRow W.heap.size 2 1 (.slice (some ⟨W.heap.size, 0, none⟩) n n) (List.replicate n (0 : Int)).length ((List.replicate n (0 : Int)).map (Value.int .i64)) := by
      rw [List.length_replicate, List.map_replicate]; exact hown
    exact Og.own h2
  obtain ⟨g, off, cap, e, ho⟩ := Og.ob h (by rw [List.length_replicate]; exact h0)
  simp only [Value.slice.injEq, Option.some.injEq, Addr.mk.injEq, and_true, List.length_replicate] at e
  obtain ⟨⟨e1, e2⟩, e3, e4⟩ := e
  subst e1 e2 e4
  rw [List.length_replicate] at ho; exact ho
set_option maxHeartbeats 4000000 in
theorem spread_any (p : Int) (v : Value) (zs : List Int) (w : World) (hs : shs p zs = true) (h : RI w v zs) :
    Calls Try.prog 32 #[.agg #[.int .i64 p, v]] w fun e w' => ∃ v', e = .returned v' ∧ OI w.heap.size w' v' (spr p.toNat zs) ∧ Below w.heap.size w w' := by
  have hlen := h.len
  obtain ⟨ao, cap, rfl⟩ := h.shape
  obtain ⟨m, rfl, hm1, hm8, hl2, hl16, hz, -⟩ := shs_parts hs
  rw [Int.toNat_natCast]
  have hb : ∀ o, Below w.heap.size w (w.alloc o) := fun o => by go_grown
  have G := Lib.hid h
  have hsz := fun v w => size_any (m : Int) v w (by omega) (by omega)
  have hsprl := spr_in m zs
  have Hi64 := Lib.hid (small_i64 hsprl (by omega))
  have Hspr := Lib.hid (show spr m zs = (spO (2 ^ m) (stp m) 0 zs ⟨0, List.replicate (2 ^ m) 0⟩).out from rfl)
  have hN256 : 2 ^ m ≤ 256 := Nat.le_trans (Nat.pow_le_pow_right (by decide) hm8) (by decide)
  have hN1 : 0 < 2 ^ m := Nat.two_pow_pos m
  have hLi : (2 : Int) ^ m = ((2 ^ m : Nat) : Int) := by simp
  have hst : stp m = if 4 ≤ m then 5 * 2 ^ m / 8 + 3 else 1 := rfl
  simp only [Int.toNat_natCast, hLi] at hsz
  generalize 2 ^ m = N at *
  have Hz := Lib.hid hz
  have Hst := Lib.hid hst
  clear hLi hs hz h hsprl hst
  obtain ⟨i0, hi, hz0, hz1, hz2⟩ := info_parts info_int
  by_cases h4 : 4 ≤ m
  · have hstp : stp m = 5 * N / 8 + 3 := by rw [Hst.out, if_pos h4]
    have HstpI := Lib.hid (show ((stp m : Nat) : Int) = 5 * (N : Int) / 8 + 3 by rw [hstp]; omega)
    have hst256 : stp m ≤ 256 := by omega
    clear hstp
    go_enter Try.func32, Try.ntmps32
    go_wp2_with fail
    refine (hsz _ _).mono ?_
    rintro e w1 ⟨rfl, hb1⟩
    have hr1 := blk_next hb1 (heap_alloc_new w _)
    have hB1 := bnext (hb _) hb1
    clear hb1
    go_wp2_with (at_make; refine wpList_make_full _ rfl _ _ 25 rfl w1.heap.size 2 i0 (.int .i64 0) 1 Try.underlying25 hi hz0 hz1 _ _ _ _ N rfl rfl rfl rfl (by rw [hz2]; omega) (by unfold maxLen; omega) (Nat.le_refl _) ?_)
    intro w2 hown hg2
    have hob := made_ob hN1 hown
    have hB2 := bnext hB1 (grow_below hg2)
    have hr2 := blk_next (grow_below hg2) hr1
    obtain ⟨k0, k1, -, -⟩ := blk2 hr2
    have hs12 := hB1.size
    have hgw : w.heap.size ≤ w1.heap.size := hs12
    have hne1 : w1.heap.size ≠ w.heap.size := by have := blk_lt hr1; omega
    clear hown hg2 hr1
    go_wp2_with fail
    refine (hsz _ _).mono ?_
    rintro e w3 ⟨rfl, hb3⟩
    have hB2 := bnext hB2 hb3
    have hr2 := blk_next hb3 hr2
    have hob := hob.below hb3
    obtain ⟨k0, k1, -, -⟩ := blk2 hr2
    clear hb3
    have hB3 := hB2
    have hr3 := hr2
    have gW := (G.out.below hB3)
    go_wp2_with fail
    rw [← HstpI.out]
    go_loopw [5, 22] (fun pv iv wr => ∃ (i : Nat) (s : Sp), iv = .int .i64 i ∧ i ≤ zs.length ∧ pv = .int .i64 s.pl ∧ s.pl < N ∧ OB (Value.int .i64) w1.heap.size wr w1.heap.size 0 N N s.out ∧ (spO N (stp m) i (zs.drop i) s).out = spr m zs ∧ wr.heap[w.heap.size]? = some (.cells #[.int .i64 m, .slice ao zs.length cap] 30 (0, 0)) ∧ Below w.heap.size w wr) (fun _ iv _ => zs.length - (intOf iv).toNat)
    case atStart => exact ⟨0, ⟨0, List.replicate N 0⟩, rfl, Nat.zero_le _, rfl, hN1, hob, by rw [Hspr.out, List.drop_zero], hr3, hB3⟩
    case round =>
      clear hob hr2 hB2 hr3 hB3 k0 k1 gW
      obtain ⟨i, s, rfl, hi', rfl, hsp, hob, hq, hr, hB⟩ := hrel
      obtain ⟨pl, out⟩ := s
      dsimp only at hsp hob
      have Hq := Lib.hid hq
      clear hq
      by_cases hil : i < zs.length
      · obtain ⟨b, off, e0, -, hcc⟩ := (G.out.below hB).2.cells (by omega)
        obtain rfl := e0
        have hci := hcc i hil
        have hzi := Hz.out zs[i] (List.getElem_mem hil)
        obtain ⟨c, hc⟩ : ∃ c : Nat, zs[i] = c := ⟨zs[i].toNat, by omega⟩
        have Hd := Lib.hid (show zs.drop i = ((c : Nat) : Int) :: zs.drop (i + 1) by rw [← hc]; exact List.drop_eq_getElem_cons hil)
        rw [hc] at hci hzi
        obtain ⟨S, hS⟩ : ∃ S, spI N (stp m) (i : Int) c ⟨pl, out⟩ = S := ⟨_, rfl⟩
        have Hq2 := Lib.hid (show (spO N (stp m) (i + 1) (zs.drop (i + 1)) S).out = spr m zs by rw [← Hq.out, Hd.out, spO, Int.toNat_natCast, hS])
        have HS := Lib.hid hS
        have hc256 : c ≤ 256 := by omega
        have hi16 : i < 16 := by omega
        clear hcc hc hS hzi
        go_wp2_with fail
        go_loopw [5, 28] (fun pv cv wr => ∃ (k : Nat) (s : Sp), cv = .int .i64 k ∧ k ≤ c ∧ pv = .int .i64 s.pl ∧ s.pl < N ∧ OB (Value.int .i64) w1.heap.size wr w1.heap.size 0 N N s.out ∧ spI N (stp m) (i : Int) (c - k) s = S ∧ wr.heap[w.heap.size]? = some (.cells #[.int .i64 m, .slice (some ⟨b, off, none⟩) zs.length cap] 30 (0, 0)) ∧ Below w.heap.size w wr) (fun _ cv _ => c - (intOf cv).toNat)
        case atStart => exact ⟨0, ⟨pl, out⟩, rfl, Nat.zero_le _, rfl, hsp, hob, HS.out, hr, hB⟩
        case round =>
          clear hob hr hB hsp hci
          obtain ⟨k, s, rfl, hk, rfl, hsp, hob, hq, hr, hB⟩ := hrel
          obtain ⟨pl2, out2⟩ := s
          dsimp only at hsp hob
          by_cases hkc : k < c
          · rw [show c - k = (c - (k + 1)) + 1 by omega, spI] at hq
            dsimp only at hq
            have Hq3 := Lib.hid hq
            have hol := hob.len
            have hput := hob.put pl2 (by omega) (i : Int)
            have hck := hob.cell pl2 (by omega)
            have hfk := hob.free pl2 (by omega)
            rw [Nat.zero_add] at hput hck hfk
            have hrp := blk_other (p := ⟨w1.heap.size, pl2, none⟩) (u := .int .i64 (i : Int)) hne1 hr
            have hBp := hB.setCell (p := ⟨w1.heap.size, pl2, none⟩) hgw (.int .i64 (i : Int))
            obtain ⟨kp0, kp1, -, -⟩ := blk2 hrp
            have em := Lib.hid (show ((pl2 : Int) + ((stp m : Nat) : Int)) % (N : Int) = (((pl2 + stp m) % N : Nat) : Int) by simp)
            have hml := Nat.mod_lt (pl2 + stp m) hN1
            have Hput := Lib.hid hput
            have hplN : (pl2 : Int) < (N : Int) := by omega
            have hpl0 : (0 : Int) ≤ (pl2 : Int) := by omega
            clear hq hput hob
            go_wp2_with fail
            refine (hsz _ _).mono ?_
            rintro e w4 ⟨rfl, hb4⟩
            have hr4 := blk_next hb4 hrp
            have hB4 := bnext hBp hb4
            have hob4 := Lib.hid (Hput.out.below hb4)
            clear hb4 hrp hBp kp0 kp1 hck hfk hr hB
            go_wp2
            go_roundw
            case rel => exact ⟨k + 1, ⟨_, _⟩, by go_num, by omega, vi em.out, hml, hob4.out, Hq3.out, hr4, hB4⟩
            case measure => simp [intOf] <;> omega
          · rw [show c - k = 0 by omega, spI] at hq
            have Hq3 := Lib.hid (show (spO N (stp m) (i + 1) (zs.drop (i + 1)) ⟨pl2, out2⟩).out = spr m zs by rw [hq]; exact Hq2.out)
            clear hq
            go_wp2
            go_roundw
            case rel => exact ⟨i + 1, ⟨pl2, out2⟩, by go_num, by omega, rfl, hsp, hob, Hq3.out, hr, hB⟩
            case measure => simp [intOf] <;> omega
      · have hq : out = spr m zs := by rw [← Hq.out, List.drop_of_length_le (by omega)]; rfl
        have ho : OI w.heap.size wr (.slice (some ⟨w1.heap.size, 0, none⟩) N N) (spr m zs) := ⟨Hi64.out, by rw [← hq]; exact (hob.mono hgw).og⟩
        have Ho := Lib.hid ho
        clear ho hq hob
        go_wp2
        go_ret
        exact ⟨_, rfl, Ho.out, hB⟩
  · have hstp : stp m = 1 := by rw [Hst.out, if_neg h4]
    have Hstp := Lib.hid hstp
    clear hstp
    go_enter Try.func32, Try.ntmps32
    go_wp2_with fail
    refine (hsz _ _).mono ?_
    rintro e w1 ⟨rfl, hb1⟩
    have hr1 := blk_next hb1 (heap_alloc_new w _)
    have hB1 := bnext (hb _) hb1
    clear hb1
    go_wp2_with (at_make; refine wpList_make_full _ rfl _ _ 25 rfl w1.heap.size 2 i0 (.int .i64 0) 1 Try.underlying25 hi hz0 hz1 _ _ _ _ N rfl rfl rfl rfl (by rw [hz2]; omega) (by unfold maxLen; omega) (Nat.le_refl _) ?_)
    intro w2 hown hg2
    have hob := made_ob hN1 hown
    have hB2 := bnext hB1 (grow_below hg2)
    have hr2 := blk_next (grow_below hg2) hr1
    obtain ⟨k0, k1, -, -⟩ := blk2 hr2
    have hs12 := hB1.size
    have hgw : w.heap.size ≤ w1.heap.size := hs12
    have hne1 : w1.heap.size ≠ w.heap.size := by have := blk_lt hr1; omega
    clear hown hg2 hr1
    have hB3 := hB2
    have hr3 := hr2
    have gW := (G.out.below hB3)
    go_wp2_with fail
    go_loopw [5, 22] (fun pv iv wr => ∃ (i : Nat) (s : Sp), iv = .int .i64 i ∧ i ≤ zs.length ∧ pv = .int .i64 s.pl ∧ s.pl < N ∧ OB (Value.int .i64) w1.heap.size wr w1.heap.size 0 N N s.out ∧ (spO N 1 i (zs.drop i) s).out = spr m zs ∧ wr.heap[w.heap.size]? = some (.cells #[.int .i64 m, .slice ao zs.length cap] 30 (0, 0)) ∧ Below w.heap.size w wr) (fun _ iv _ => zs.length - (intOf iv).toNat)
    case atStart => exact ⟨0, ⟨0, List.replicate N 0⟩, rfl, Nat.zero_le _, rfl, hN1, hob, by rw [Hspr.out, Hstp.out, List.drop_zero], hr3, hB3⟩
    case round =>
      clear hob hr2 hB2 hr3 hB3 k0 k1 gW
      obtain ⟨i, s, rfl, hi', rfl, hsp, hob, hq, hr, hB⟩ := hrel
      obtain ⟨pl, out⟩ := s
      dsimp only at hsp hob
      have Hq := Lib.hid hq
      clear hq
      by_cases hil : i < zs.length
      · obtain ⟨b, off, e0, -, hcc⟩ := (G.out.below hB).2.cells (by omega)
        obtain rfl := e0
        have hci := hcc i hil
        have hzi := Hz.out zs[i] (List.getElem_mem hil)
        obtain ⟨c, hc⟩ : ∃ c : Nat, zs[i] = c := ⟨zs[i].toNat, by omega⟩
        have Hd := Lib.hid (show zs.drop i = ((c : Nat) : Int) :: zs.drop (i + 1) by rw [← hc]; exact List.drop_eq_getElem_cons hil)
        rw [hc] at hci hzi
        obtain ⟨S, hS⟩ : ∃ S, spI N 1 (i : Int) c ⟨pl, out⟩ = S := ⟨_, rfl⟩
        have Hq2 := Lib.hid (show (spO N 1 (i + 1) (zs.drop (i + 1)) S).out = spr m zs by rw [← Hq.out, Hd.out, spO, Int.toNat_natCast, hS])
        have HS := Lib.hid hS
        have hc256 : c ≤ 256 := by omega
        have hi16 : i < 16 := by omega
        clear hcc hc hS hzi
        go_wp2_with fail
        go_loopw [5, 28] (fun pv cv wr => ∃ (k : Nat) (s : Sp), cv = .int .i64 k ∧ k ≤ c ∧ pv = .int .i64 s.pl ∧ s.pl < N ∧ OB (Value.int .i64) w1.heap.size wr w1.heap.size 0 N N s.out ∧ spI N 1 (i : Int) (c - k) s = S ∧ wr.heap[w.heap.size]? = some (.cells #[.int .i64 m, .slice (some ⟨b, off, none⟩) zs.length cap] 30 (0, 0)) ∧ Below w.heap.size w wr) (fun _ cv _ => c - (intOf cv).toNat)
        case atStart => exact ⟨0, ⟨pl, out⟩, rfl, Nat.zero_le _, rfl, hsp, hob, HS.out, hr, hB⟩
        case round =>
          clear hob hr hB hsp hci
          obtain ⟨k, s, rfl, hk, rfl, hsp, hob, hq, hr, hB⟩ := hrel
          obtain ⟨pl2, out2⟩ := s
          dsimp only at hsp hob
          by_cases hkc : k < c
          · rw [show c - k = (c - (k + 1)) + 1 by omega, spI] at hq
            dsimp only at hq
            have Hq3 := Lib.hid hq
            have hol := hob.len
            have hput := hob.put pl2 (by omega) (i : Int)
            have hck := hob.cell pl2 (by omega)
            have hfk := hob.free pl2 (by omega)
            rw [Nat.zero_add] at hput hck hfk
            have hrp := blk_other (p := ⟨w1.heap.size, pl2, none⟩) (u := .int .i64 (i : Int)) hne1 hr
            have hBp := hB.setCell (p := ⟨w1.heap.size, pl2, none⟩) hgw (.int .i64 (i : Int))
            obtain ⟨kp0, kp1, -, -⟩ := blk2 hrp
            have em := Lib.hid (show ((pl2 : Int) + 1) % (N : Int) = (((pl2 + 1) % N : Nat) : Int) by simp)
            have hml := Nat.mod_lt (pl2 + 1) hN1
            have Hput := Lib.hid hput
            have hplN : (pl2 : Int) < (N : Int) := by omega
            have hpl0 : (0 : Int) ≤ (pl2 : Int) := by omega
            clear hq hput hob
            go_wp2_with fail
            refine (hsz _ _).mono ?_
            rintro e w4 ⟨rfl, hb4⟩
            have hr4 := blk_next hb4 hrp
            have hB4 := bnext hBp hb4
            have hob4 := Lib.hid (Hput.out.below hb4)
            clear hb4 hrp hBp kp0 kp1 hck hfk hr hB
            go_wp2
            go_roundw
            case rel => exact ⟨k + 1, ⟨_, _⟩, by go_num, by omega, vi em.out, hml, hob4.out, Hq3.out, hr4, hB4⟩
            case measure => simp [intOf] <;> omega
          · rw [show c - k = 0 by omega, spI] at hq
            have Hq3 := Lib.hid (show (spO N 1 (i + 1) (zs.drop (i + 1)) ⟨pl2, out2⟩).out = spr m zs by rw [hq]; exact Hq2.out)
            clear hq
            go_wp2
            go_roundw
            case rel => exact ⟨i + 1, ⟨pl2, out2⟩, by go_num, by omega, rfl, hsp, hob, Hq3.out, hr, hB⟩
            case measure => simp [intOf] <;> omega
      · have hq : out = spr m zs := by rw [← Hq.out, List.drop_of_length_le (by omega)]; rfl
        have ho : OI w.heap.size wr (.slice (some ⟨w1.heap.size, 0, none⟩) N N) (spr m zs) := ⟨Hi64.out, by rw [← hq]; exact (hob.mono hgw).og⟩
        have Ho := Lib.hid ho
        clear ho hq hob
        go_wp2
        go_ret
        exact ⟨_, rfl, Ho.out, hB⟩
end Go.Proofs.Ytnhcoggjnbldiaa
