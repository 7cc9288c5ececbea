/- MergeText: what both packages return. No conditions but that the slices read. -/
import Derived.Test.YtjeakgakpioieaaMrg
namespace Go.Proofs.Ytjeakgakpioieaa
open Go.RowKit
set_option maxRecDepth 100000
set_option linter.unusedVariables false
set_option linter.unusedSimpArgs false

theorem bset0 {W : World} {b : Nat} {x y u : Value} {t : TypeId} (h : W.heap[b]? = some (.cells #[x, y] t (0, 0))) : (W.setCell ⟨b, 0, none⟩ u).heap[b]? = some (.cells #[u, y] t (0, 0)) :=
  heap_setCell_same W b 0 #[x, y] t u h
theorem sgn_nat {a : Int} (h : sgn a = true) : ∃ n : Nat, a = n ∧ 2 ≤ n ∧ n ≤ 16 := by
  have h1 : 2 ≤ a ∧ a ≤ 16 := by have := inB_eq h; simpa using this
  exact ⟨a.toNat, by omega, by omega, by omega⟩
theorem txt_parts {zs : List Int} {n : Int} (h : txt zs n = true) : (∃ m : Nat, n = m ∧ 2 ≤ m ∧ m ≤ 16) ∧ zs.length ≤ 64 := by
  simp only [txt, Bool.and_eq_true, decide_eq_true_eq] at h
  exact ⟨sgn_nat h.1.1, h.1.2⟩
theorem mx_bd (zs : List Int) (N : Nat) (hN : 0 < N) : (mx zs N).a < N ∧ (mx zs N).b < N ∧ 1 ≤ (mx zs N).most ∧ (mx zs N).most ≤ zs.length + 1 :=
  mxa_bd zs N N 0 ⟨1, 0, 0⟩ (by omega) ⟨hN, hN, Nat.le_refl _, by simp⟩
theorem nat_i64 {n : Nat} (h : n ≤ 1000) : I64 (n : Int) := by constructor <;> omega
theorem apart_new {B : Nat} {w : World} {v : Value} {zs : List Int} (h : OI B w v zs) {b : Option Nat} (hb : ∀ k, b = some k → k < B) : v.ownBlock = none ∨ v.ownBlock ≠ b := by
  cases hv : v.ownBlock with
  | none => exact .inl rfl
  | some k => right; intro e; have := (h.2.blk k hv).1; have := hb k e.symm; omega
set_option maxHeartbeats 4000000 in
theorem implMe_any (v : Value) (zs : List Int) (n t : Int) (w : World) (h : RI w v zs) :
    Calls Try.prog 13 #[v, .int .i64 n, .int .i64 t] w fun e w' => ∃ v1 v2, e = .returned (.tuple #[v1, v2, .bool (meOk zs n t)]) ∧ OI w.heap.size w' v1 (meZ zs n t) ∧ OI w.heap.size w' v2 (meR zs n t) ∧ (v1.ownBlock = none ∨ v1.ownBlock ≠ v2.ownBlock) ∧ Below w.heap.size w w' := by
  have hlen := h.len
  have hi64 := h.1
  obtain ⟨ao, cap, rfl⟩ := h.shape
  have G := Lib.hid h
  by_cases ht : txt zs n = true
  · by_cases hk : inB t 0 8 = true
    · have hOK : meOk zs n t = true := by simp [meOk, ht, hk]
      obtain ⟨⟨m, rfl, hm2, hm16⟩, hl64⟩ := txt_parts ht
      have hkb : 0 ≤ t ∧ t ≤ 8 := by simpa [inB] using hk
      obtain ⟨T, rfl⟩ := Int.eq_ofNat_of_zero_le hkb.1
      have HZ := Lib.hid (show meZ zs m T = (mgF m T 0 zs []).1 by rw [meZ, if_pos hOK]; rfl)
      have HR := Lib.hid (show meR zs m T = (mgF m T 0 zs []).2 by rw [meR, if_pos hOK]; rfl)
      have hT8 : T ≤ 8 := by omega
      have Hi64 := Lib.hid hi64
      rw [hOK]
      clear hOK hkb hi64
      go_enter Try.func13, Try.ntmps13
      go_wp2_with fail
      refine (isText_any _ zs _ _ G.out).mono ?_
      rw [ht]
      rintro e w1 ⟨rfl, rfl⟩
      go_wp2_with fail
      refine (within_any _ _ _ _).mono ?_
      rw [hk]
      rintro e w1 ⟨rfl, rfl⟩
      go_wp2_with fail
      refine (clone_any _ zs _ G.out (by omega)).mono ?_
      rintro e w1 ⟨v1, rfl, ho1, hb1⟩
      have hs1 := hb1.size
      have hap1 := ho1.2.blk
      go_wp2_with fail
      go_loopw [9, 10, 31] (fun ov rv iv wr => ∃ (i : Nat) (cur rs : List Int), iv = .int .i64 i ∧ i ≤ T ∧ mgF m (T - i) i cur rs = mgF m T 0 zs [] ∧ cur.length ≤ 64 ∧ rs.length ≤ 2 * i ∧ AllI64 rs ∧ OI w.heap.size wr ov cur ∧ OwnI w1.heap.size wr rv rs ∧ w1.heap.size ≤ wr.heap.size ∧ (ov.ownBlock = none ∨ ov.ownBlock ≠ rv.ownBlock) ∧ Below w.heap.size w wr) (fun _ _ iv _ => T - (intOf iv).toNat)
      case atStart => exact ⟨0, zs, [], rfl, Nat.zero_le _, rfl, hl64, Nat.zero_le _, (fun z hz => by cases hz), ho1.below (by go_grown), own_empty w1 _ (Nat.le_refl _), by simp, (by
        cases hv : v1.ownBlock with
        | none => exact .inl rfl
        | some k => right; intro e; have := (hap1 k hv).2; simp [Value.ownBlock] at e; omega), bnext hb1 (by go_grown)⟩
      case round =>
        clear ho1 hb1 hap1
        obtain ⟨i, cur, rs, rfl, hi, hq, hcl, hrl, hrs, ho, hown, hw1s, hap, hB⟩ := hrel
        obtain ⟨aoc, capc, rfl⟩ := ho.shape
        obtain ⟨aor, capr, rfl⟩ := hown.shape
        by_cases hiT : i < T
        · rw [show T - i = (T - (i + 1)) + 1 by omega, mgF] at hq
          have Hq := Lib.hid hq
          have hN0 : 0 < m + i := by omega
          have Hmx := Lib.hid (mx_bd cur (m + i) hN0)
          have Ho := Lib.hid ho
          have Hown := Lib.hid hown
          have Hrs := Lib.hid hrs
          have Hap := Lib.hid hap
          have HB := Lib.hid hB
          clear hq ho hown hrs hap hB
          obtain ⟨wo, rfl⟩ : ∃ wo : World, wo = wr := ⟨_, rfl⟩
          go_wp2_with fail
          go_loopw [12, 38] (fun mv xv wr => ∃ (x : Nat) (q : Mx), xv = .int .i64 x ∧ x ≤ m + i ∧ mv = .int .i64 q.most ∧ mxa cur (m + i) (m + i - x) x q = mx cur (m + i) ∧ wr.heap[wo.heap.size]? = some (.cells #[.int .i64 q.a, .int .i64 q.b] 46 (0, 0)) ∧ Below wo.heap.size wo wr) (fun _ xv _ => m + i - (intOf xv).toNat)
          case atStart => exact ⟨0, ⟨1, 0, 0⟩, rfl, Nat.zero_le _, rfl, rfl, heap_alloc_new wo _, by go_grown⟩
          case round =>
            obtain ⟨x, q, rfl, hx, rfl, hqx, hbx, hB1⟩ := hrel
            by_cases hxN : x < m + i
            · rw [show m + i - x = (m + i - (x + 1)) + 1 by omega, mxa] at hqx
              have Hqx := Lib.hid hqx
              clear hqx
              have hxi : (x : Int) < (m : Int) + (i : Int) := by omega
              go_wp2_with fail
              go_loopw [12, 44] (fun mv yv wr => ∃ (y : Nat) (r : Mx), yv = .int .i64 y ∧ y ≤ m + i ∧ mv = .int .i64 r.most ∧ mxb cur x (m + i - y) y r = mxb cur x (m + i) 0 q ∧ wr.heap[wo.heap.size]? = some (.cells #[.int .i64 r.a, .int .i64 r.b] 46 (0, 0)) ∧ Below wo.heap.size wo wr) (fun _ yv _ => m + i - (intOf yv).toNat)
              case atStart => exact ⟨0, q, rfl, Nat.zero_le _, rfl, rfl, hbx, hB1⟩
              case round =>
                clear hbx hB1
                obtain ⟨y, r, rfl, hy, rfl, hqy, hbx, hB1⟩ := hrel
                by_cases hyN : y < m + i
                · rw [show m + i - y = (m + i - (y + 1)) + 1 by omega, mxb] at hqy
                  have hyi : (y : Int) < (m : Int) + (i : Int) := by omega
                  have hcw := fun w' (hb' : Below wo.heap.size wo w') => swap_any _ cur (x : Int) (y : Int) (-1) (by constructor <;> decide) w' ((Ho.out.below hb').ri) hcl
                  generalize ct (x : Int) (y : Int) cur = c at *
                  have hbx0 := blk_lt hbx
                  by_cases hc : r.most < c
                  · rw [if_pos hc] at hqy
                    have Hqy := Lib.hid hqy
                    have hci : (r.most : Int) < (c : Int) := by omega
                    clear hqy
                    go_wp2_with fail
                    refine (hcw _ hB1).mono ?_
                    rintro e w4 ⟨v4, rfl, ho4, hb4⟩
                    have hbx4 := blk_next hb4 hbx
                    have hB4 := bnext hB1 hb4
                    obtain ⟨z0, z1, u0, u1⟩ := blk2 hbx4
                    have hbx5 := blk_set1 (u := .int .i64 (y : Int)) (bset0 (u := .int .i64 (x : Int)) hbx4)
                    have hB5 := below_box hB4 wo.heap.size (Nat.le_refl _) (.int .i64 (x : Int)) (.int .i64 (y : Int))
                    clear ho4 hb4 hbx hB1
                    go_wp2
                    go_roundw
                    case rel => exact ⟨y + 1, ⟨c, x, y⟩, by go_num, by omega, rfl, Hqy.out, hbx5, hB5⟩
                    case measure => simp [intOf] <;> omega
                  · rw [if_neg hc] at hqy
                    have Hqy := Lib.hid hqy
                    have hci : ¬ (r.most : Int) < (c : Int) := by omega
                    clear hqy
                    go_wp2_with fail
                    refine (hcw _ hB1).mono ?_
                    rintro e w4 ⟨v4, rfl, ho4, hb4⟩
                    have hbx4 := blk_next hb4 hbx
                    have hB4 := bnext hB1 hb4
                    clear ho4 hb4 hbx hB1
                    go_wp2
                    go_roundw
                    case rel => exact ⟨y + 1, r, by go_num, by omega, rfl, Hqy.out, hbx4, hB4⟩
                    case measure => simp [intOf] <;> omega
                · have hyi : ¬ (y : Int) < (m : Int) + (i : Int) := by omega
                  rw [show m + i - y = 0 by omega, mxb] at hqy
                  have Hqy := Lib.hid (show mxa cur (m + i) (m + i - (x + 1)) (x + 1) r = mx cur (m + i) by rw [hqy]; exact Hqx.out)
                  clear hqy
                  go_wp2
                  go_roundw
                  case rel => exact ⟨x + 1, r, by go_num, by omega, rfl, Hqy.out, hbx, hB1⟩
                  case measure => simp [intOf] <;> omega
            · have hxi : ¬ (x : Int) < (m : Int) + (i : Int) := by omega
              rw [show m + i - x = 0 by omega, mxa] at hqx
              have hmx := Hmx.out
              have hq := Hq.out
              rw [← hqx] at hmx hq
              obtain ⟨ma, mb, mc, md⟩ := hmx
              obtain ⟨c0, c1, -, -⟩ := blk2 hbx
              clear hqx
              by_cases h1 : q.most = 1
              · rw [if_pos h1] at hq
                have Hq2 := Lib.hid hq
                have h1b : ((q.most : Int) == 1) = true := by simp; omega
                have hBf := bnext HB.out hB1
                have Hof := Lib.hid (Ho.out.below hB1)
                have Hrf := Lib.hid (OI.mono (B' := w.heap.size) (by omega) ((show OwnI w1.heap.size wr (.slice aor rs.length capr) rs from own_below hB1 Hown.out).oi Hrs.out))
                clear hq h1 c0 c1 hbx
                go_wp2
                go_ret3
                exact ⟨_, _, ret3 rfl rfl rfl, by rw [HZ.out, ← Hq2.out]; exact Hof.out, by rw [HR.out, ← Hq2.out]; exact Hrf.out, Hap.out, hBf⟩
              · rw [if_neg h1] at hq
                have h1b : ((q.most : Int) == 1) = false := by simp; omega
                obtain ⟨nw, hnw⟩ : ∃ nw, mg (q.a : Int) (q.b : Int) ((m + i : Nat) : Int) cur = nw := ⟨_, rfl⟩
                have hnwl : nw.length ≤ 64 := by have := mg_len (q.a : Int) (q.b : Int) ((m + i : Nat) : Int) cur; rw [hnw] at this; omega
                rw [hnw] at hq
                have Hq2 := Lib.hid hq
                have eN : ((m + i : Nat) : Int) = (m : Int) + (i : Int) := by omega
                have hcw := fun w' (hb' : Below wo.heap.size wo w') => swap_any _ cur (q.a : Int) (q.b : Int) ((m : Int) + (i : Int)) (by constructor <;> omega) w' ((Ho.out.below hb').ri) hcl
                rw [← eN, hnw, eN] at hcw
                generalize ct (q.a : Int) (q.b : Int) cur = c at *
                clear hq h1 hnw eN
                go_wp2_with fail
                refine (hcw _ hB1).mono ?_
                rintro e w4 ⟨v4, rfl, ho4, hb4⟩
                have hB4 := bnext hB1 hb4
                obtain ⟨d0, d1, -, -⟩ := blk2 (blk_next hb4 hbx)
                have hown4 : OwnI w1.heap.size w4 (.slice aor rs.length capr) rs := own_below hB4 Hown.out
                have hBw4 := bnext HB.out hB4
                have hap4 := apart_new ho4 (b := (Value.slice aor rs.length capr).ownBlock) (fun k hk => by have := (Hown.out.lt k hk).2; have := hB1.size; omega)
                have hs4 := hB4.size
                have hw14 : w1.heap.size ≤ w4.heap.size := by omega
                obtain ⟨ao4, cap4, rfl⟩ := ho4.shape
                have Ho4 := Lib.hid ho4
                have Hap4 := Lib.hid hap4
                clear ho4 hap4 hcw hb4 c0 c1
                go_wp2_with (at_builtin; go_must (refine app_at rfl _ _ rfl w1.heap.size w.heap.size hs1 (.slice aor rs.length capr) rs rfl hown4 hBw4 _ _ [(q.a : Int), (q.b : Int)] rfl rfl (by simp only [List.length_cons, List.length_nil]; omega) hw14 ?_))
                intro v5 w5 hown5 hB5 hg5 hat5
                have ho5 := (Ho4.out.below (show Below w4.heap.size w4 (w4.alloc _) from (Below.refl _ _).alloc (Nat.le_refl _) _)).other hg5 Hap4.out
                have Hap5 := Lib.hid (show (Value.slice ao4 nw.length cap4).ownBlock = none ∨ (Value.slice ao4 nw.length cap4).ownBlock ≠ v5.ownBlock from by
                  rcases hat5 with e | e
                  · rw [e]; exact Hap4.out
                  · rw [e]
                    cases hv : (Value.slice ao4 nw.length cap4).ownBlock with
                    | none => exact .inl rfl
                    | some k => right; intro e2; have := (Ho4.out.2.blk k hv).2; have := Option.some.inj e2; omega)
                have Ho5 := Lib.hid (OI.mono (B' := w.heap.size) (by have := hBw4.size; have := hB1.size; have := HB.out.size; omega) ho5)
                have hrs5 : AllI64 (rs ++ [(q.a : Int), (q.b : Int)]) := fun z hz => by
                  rcases List.mem_append.1 hz with hz | hz
                  · exact Hrs.out z hz
                  · simp only [List.mem_cons, List.not_mem_nil, or_false] at hz
                    rcases hz with rfl | rfl <;> constructor <;> omega
                have Hrs5 := Lib.hid hrs5
                have Hrl := Lib.hid (show (rs ++ [(q.a : Int), (q.b : Int)]).length ≤ 2 * (i + 1) by rw [List.length_append, List.length_cons, List.length_cons, List.length_nil]; omega)
                obtain ⟨ao5, cap5, rfl⟩ := hown5.shape
                have Hown5 := Lib.hid hown5
                have hw15 : w1.heap.size ≤ w5.heap.size := by have := hg5.size; simp only [World.size_alloc] at this; omega
                clear hat5 hg5 hown4 ho5 hrs5 hown5
                go_wp2
                go_roundw
                case rel => exact ⟨i + 1, nw, _, by go_num, by omega, Hq2.out, hnwl, Hrl.out, Hrs5.out, Ho5.out, Hown5.out, hw15, Hap5.out, hB5⟩
                case measure => simp [intOf] <;> omega
        · have hq2 : mgF m T 0 zs [] = (cur, rs) := by rw [← hq, show T - i = 0 by omega]; rfl
          have Hq2 := Lib.hid hq2
          have Hof := Lib.hid ho
          have Hrf := Lib.hid (OI.mono (B' := w.heap.size) hs1 (hown.oi hrs))
          have Hap := Lib.hid hap
          clear hq hq2 ho hown hrs hap
          go_wp2
          go_ret3
          exact ⟨_, _, ret3 rfl rfl rfl, by rw [HZ.out, Hq2.out]; exact Hof.out, by rw [HR.out, Hq2.out]; exact Hrf.out, Hap.out, hB⟩
    · have hk : inB t 0 8 = false := by simpa using hk
      have HO := Lib.hid (show meOk zs n t = false by simp [meOk, hk])
      have HZ := Lib.hid (show meZ zs n t = [] by rw [meZ, HO.out]; rfl)
      have HR := Lib.hid (show meR zs n t = [] by rw [meR, HO.out]; rfl)
      go_enter Try.func13, Try.ntmps13
      go_wp2_with fail
      refine (isText_any _ zs _ _ G.out).mono ?_
      rw [ht]
      rintro e w1 ⟨rfl, rfl⟩
      go_wp2_with fail
      refine (within_any _ _ _ _).mono ?_
      rw [hk]
      rintro e w1 ⟨rfl, rfl⟩
      go_wp2
      go_ret3
      exact ⟨_, _, ret3 rfl rfl (vb HO.out.symm), by rw [HZ.out]; exact OI.nil _ _, by rw [HR.out]; exact OI.nil _ _, .inl rfl, Below.refl _ _⟩
  · have ht : txt zs n = false := by simpa using ht
    have HO := Lib.hid (show meOk zs n t = false by simp [meOk, ht])
    have HZ := Lib.hid (show meZ zs n t = [] by rw [meZ, HO.out]; rfl)
    have HR := Lib.hid (show meR zs n t = [] by rw [meR, HO.out]; rfl)
    go_enter Try.func13, Try.ntmps13
    go_wp2_with fail
    refine (isText_any _ zs _ _ G.out).mono ?_
    rw [ht]
    rintro e w1 ⟨rfl, rfl⟩
    go_wp2
    go_ret3
    exact ⟨_, _, ret3 rfl rfl (vb HO.out.symm), by rw [HZ.out]; exact OI.nil _ _, by rw [HR.out]; exact OI.nil _ _, .inl rfl, Below.refl _ _⟩
end Go.Proofs.Ytjeakgakpioieaa
