/- Grown text, in the program: GrownText. No conditions but that the slices read. -/
import Derived.Test.YtjeakgakpioieaaGtI0
import Derived.Test.YtjeakgakpioieaaGtR
import Derived.Test.YtjeakgakpioieaaPop
import Derived.Test.YtjeakgakpioieaaPopI
import Derived.Deep.DrawnRows
import Derived.Sort.QuietIn
import Derived.Sort.LoopGhostIn
namespace Go.Proofs.Ytjeakgakpioieaa
open Go.RowKit Go.Shelf
set_option maxRecDepth 100000
set_option linter.unusedVariables false
set_option linter.unusedSimpArgs false
attribute [local go_sem] Oper.semAt_some
attribute [local go_sem ↓] Go.wp_at_zero Go.wp_at_succ

theorem gb0 (w : World) (zs : List Int) (ao : Option Addr) (cap : Nat) : Gb w.heap.size (.slice ao zs.length cap) (((((((((w.alloc (.cells #[.slice none 0 0] 25)).alloc (.cells #[.bool false] 4)).alloc (.cells #[] 2)).alloc (.cells #[.slice (some ⟨w.heap.size + 1 + 1, 0, none⟩) 0 0] 25)).alloc (.cells #[.slice (some ⟨w.heap.size + 1 + 1 + 1, 0, none⟩) 1 1] 40)).alloc (.cells #[] 2)).alloc (.cells #[.slice (some ⟨w.heap.size + 1 + 1 + 1 + 1 + 1, 0, none⟩) 0 0] 25)).alloc (.cells #[.slice ao zs.length cap] 25)).alloc (.cells #[.int .i64 2] 3)) [(.slice (some ⟨w.heap.size + 1 + 1, 0, none⟩) 0 0, [])] [] (.slice (some ⟨w.heap.size + 1 + 1 + 1, 0, none⟩) 1 1) (.slice (some ⟨w.heap.size + 1 + 1 + 1 + 1 + 1, 0, none⟩) 0 0) := by
  refine ⟨?_, ?_, ?_, ?_, ?_, ?_, ?_⟩
  · have := Boxed.new ((((w.alloc (.cells #[.slice none 0 0] 25)).alloc (.cells #[.bool false] 4)).alloc (.cells #[] 2)).alloc (.cells #[.slice (some ⟨w.heap.size + 1 + 1, 0, none⟩) 0 0] 25)) 40 (.slice (some ⟨w.heap.size + 1 + 1 + 1, 0, none⟩) 1 1)
    (try simp only [World.size_alloc] at this)
    exact ((((this.alloc _).alloc _).alloc _).alloc _)
  · have := Boxed.new ((((((w.alloc (.cells #[.slice none 0 0] 25)).alloc (.cells #[.bool false] 4)).alloc (.cells #[] 2)).alloc (.cells #[.slice (some ⟨w.heap.size + 1 + 1, 0, none⟩) 0 0] 25)).alloc (.cells #[.slice (some ⟨w.heap.size + 1 + 1 + 1, 0, none⟩) 1 1] 40)).alloc (.cells #[] 2)) 25 (.slice (some ⟨w.heap.size + 1 + 1 + 1 + 1 + 1, 0, none⟩) 0 0)
    (try simp only [World.size_alloc] at this)
    exact ((this.alloc _).alloc _)
  · refine ⟨?_, fun p hp => ?_, fun p hp k hk => ?_, ?_, fun k hk => ?_, fun k hk => ?_⟩
    · have := World.ownsRow_lit (base := w.heap.size + 1 + 1) (e := 25) (size := 1) (((w.alloc (.cells #[.slice none 0 0] 25)).alloc (.cells #[.bool false] 4)).alloc (.cells #[] 2)) #[.slice (some ⟨w.heap.size + 1 + 1, 0, none⟩) 0 0] 1 (by simp) (by unfold maxLen; omega) rfl
      simp only [World.size_alloc] at this
      have h2 := (((((World.ownsRow.alloc this (.cells #[.slice (some ⟨w.heap.size + 1 + 1 + 1, 0, none⟩) 1 1] 40)).alloc (.cells #[] 2)).alloc (.cells #[.slice (some ⟨w.heap.size + 1 + 1 + 1 + 1 + 1, 0, none⟩) 0 0] 25)).alloc (.cells #[.slice ao zs.length cap] 25)).alloc (.cells #[.int .i64 2] 3))
      exact h2
    · obtain rfl := List.mem_singleton.1 hp
      have h1 := own_empty ((w.alloc (.cells #[.slice none 0 0] 25)).alloc (.cells #[.bool false] 4)) (w.heap.size + 1 + 1) (by simp)
      simp only [World.size_alloc] at h1
      exact (h1.oi (fun z hz => by cases hz)).ri.below (by go_grown)
    · obtain rfl := List.mem_singleton.1 hp
      simp [Value.ownBlock] at hk
      subst hk
      simp [Value.ownBlock]; omega
    · have h1 := own_empty (((((w.alloc (.cells #[.slice none 0 0] 25)).alloc (.cells #[.bool false] 4)).alloc (.cells #[] 2)).alloc (.cells #[.slice (some ⟨w.heap.size + 1 + 1, 0, none⟩) 0 0] 25)).alloc (.cells #[.slice (some ⟨w.heap.size + 1 + 1 + 1, 0, none⟩) 1 1] 40)) (w.heap.size + 1 + 1) (by first | (simp; done) | (simp; omega))
      simp only [World.size_alloc] at h1
      exact (((h1.alloc _).alloc _).alloc _)
    · simp [Value.ownBlock] at hk ⊢
      omega
    · simp only [GF] at hk
      refine ⟨by simp; omega, by simp [Value.ownBlock]; omega, by simp [Value.ownBlock]; omega, fun p hp => ?_⟩
      obtain rfl := List.mem_singleton.1 hp
      simp [Value.ownBlock]; omega
  · have := Boxed.new w 25 (.slice none 0 0)
    (try simp only [World.size_alloc] at this)
    exact ((((((((this.alloc _).alloc _).alloc _).alloc _).alloc _).alloc _).alloc _).alloc _)
  · have := Boxed.new (w.alloc (.cells #[.slice none 0 0] 25)) 4 (.bool false)
    (try simp only [World.size_alloc] at this)
    exact (((((((this.alloc _).alloc _).alloc _).alloc _).alloc _).alloc _).alloc _)
  · have := Boxed.new (((((((w.alloc (.cells #[.slice none 0 0] 25)).alloc (.cells #[.bool false] 4)).alloc (.cells #[] 2)).alloc (.cells #[.slice (some ⟨w.heap.size + 1 + 1, 0, none⟩) 0 0] 25)).alloc (.cells #[.slice (some ⟨w.heap.size + 1 + 1 + 1, 0, none⟩) 1 1] 40)).alloc (.cells #[] 2)).alloc (.cells #[.slice (some ⟨w.heap.size + 1 + 1 + 1 + 1 + 1, 0, none⟩) 0 0] 25)) 25 (.slice ao zs.length cap)
    (try simp only [World.size_alloc] at this)
    exact (this.alloc _)
  · have := Boxed.new ((((((((w.alloc (.cells #[.slice none 0 0] 25)).alloc (.cells #[.bool false] 4)).alloc (.cells #[] 2)).alloc (.cells #[.slice (some ⟨w.heap.size + 1 + 1, 0, none⟩) 0 0] 25)).alloc (.cells #[.slice (some ⟨w.heap.size + 1 + 1 + 1, 0, none⟩) 1 1] 40)).alloc (.cells #[] 2)).alloc (.cells #[.slice (some ⟨w.heap.size + 1 + 1 + 1 + 1 + 1, 0, none⟩) 0 0] 25)).alloc (.cells #[.slice ao zs.length cap] 25)) 3 (.int .i64 2)
    (try simp only [World.size_alloc] at this)
    exact this
set_option maxHeartbeats 4000000 in
theorem implGt_in (zs : List Int) (ao : Option Addr) (cap : Nat) (n : Int) (w : World) (h : RI w (.slice ao zs.length cap) zs) (hs : sgn n = true) (hm : zs.length % 2 = 0) (hl : zs.length ≤ 128) :
    CallsIn Fence.wide 3 Try.prog 9 #[.slice ao zs.length cap, .int .i64 n] w fun e w' => ∃ v', e = .returned (.tuple #[v', .bool (gtOk zs n)]) ∧ OI w.heap.size w' v' (gtZ zs n) ∧ Below w.heap.size w w' := by
  have h1 : 1 ≤ 3 := by omega
  have hlen := h.len
  obtain ⟨q, hq⟩ : ∃ q, zs.length = 2 * q := ⟨zs.length / 2, by omega⟩
  have hm3 : ((zs.length : Int).tmod 2 != 0) = false := by
    rw [Int.tmod_eq_emod_of_nonneg (by omega)]; simp; omega
  have hm4 : ((zs.length : Int) % 2 != 0) = false := by simp; omega
  have hgt : decide ((128 : Int) < (zs.length : Int)) = false := decide_eq_false (by omega)
  have hgt2 : ¬ (128 : Nat) < zs.length := by omega
  have HO := Lib.hid (show gtO zs n = (gdF zs (List.range q)).bind fun r => if txt r.2 n = true ∧ eqL (gpF r.2 [] [] 0) zs = true then some r.2 else none by rw [gtO, if_pos (by simp [gtOk0, hs, hm, hl]), hq, Nat.mul_div_cancel_left _ (by decide)])
  have hcap := ints_cells h
  obtain ⟨b0, o0, hao, hcs⟩ : ∃ b0 o0, (0 < q → ao = some ⟨b0, o0, none⟩) ∧ ∀ i (_ : i < zs.length), b0 < w.heap.size ∧ w.cell? ⟨b0, o0 + i, none⟩ = some (.int .i64 zs[i]) := by
    by_cases hq0 : 0 < q
    · obtain ⟨b0, o0, e0, -, hcs⟩ := h.2.cells (by omega)
      exact ⟨b0, o0, fun _ => e0, fun i hi => ⟨World.block_lt_of_cell? w _ (hcs i hi), hcs i hi⟩⟩
    · exact ⟨0, 0, fun h0 => absurd h0 hq0, fun i hi => by omega⟩
  have HH := Lib.hid h
  have HI := Lib.hid h.1
  have HC := Lib.hid hcs
  have Hq := Lib.hid hq
  have hq64 : q ≤ 64 := by omega
  clear h hcs hm hq
  refine callsIn_of_wp_marks Try.func9 rfl trivial ?_ rfl
  simp only [Try.ntmps9, List.size_toArray, List.length_cons, List.length_nil, Nat.reduceAdd, Nat.reduceSub, Array.replicate_succ, Array.replicate_zero, List.push_toArray, List.append_toArray, List.nil_append, List.cons_append]
  gi_wp2_with (refine ⟨trivial, ?_⟩; gi_at_call 24; refine (callsIn_wide.2 (areSigns_any _ _)).mono ?_; rw [hs]; rintro e w1 ⟨rfl, rfl⟩)
  refine ⟨trivial, ?_⟩
  gi_at_call 25
  refine (chunk_in (3 - 1) ao zs.length cap 2 (by decide) _).mono ?_
  rintro e w' ⟨rfl, rfl⟩
  have hx0 := gb0 w zs ao cap
  have hBW : Below w.heap.size w (((((((((w.alloc (.cells #[.slice none 0 0] 25)).alloc (.cells #[.bool false] 4)).alloc (.cells #[] 2)).alloc (.cells #[.slice (some ⟨w.heap.size + 1 + 1, 0, none⟩) 0 0] 25)).alloc (.cells #[.slice (some ⟨w.heap.size + 1 + 1 + 1, 0, none⟩) 1 1] 40)).alloc (.cells #[] 2)).alloc (.cells #[.slice (some ⟨w.heap.size + 1 + 1 + 1 + 1 + 1, 0, none⟩) 0 0] 25)).alloc (.cells #[.slice ao zs.length cap] 25)).alloc (.cells #[.int .i64 2] 3)) := by go_grown
  have hs0 : ((((((((((w.alloc (.cells #[.slice none 0 0] 25)).alloc (.cells #[.bool false] 4)).alloc (.cells #[] 2)).alloc (.cells #[.slice (some ⟨w.heap.size + 1 + 1, 0, none⟩) 0 0] 25)).alloc (.cells #[.slice (some ⟨w.heap.size + 1 + 1 + 1, 0, none⟩) 1 1] 40)).alloc (.cells #[] 2)).alloc (.cells #[.slice (some ⟨w.heap.size + 1 + 1 + 1 + 1 + 1, 0, none⟩) 0 0] 25)).alloc (.cells #[.slice ao zs.length cap] 25)).alloc (.cells #[.int .i64 2] 3))).heap.size = w.heap.size + 9 := by simp
  gi_wp2
  generalize hW5 : (((((((((w.alloc (.cells #[.slice none 0 0] 25)).alloc (.cells #[.bool false] 4)).alloc (.cells #[] 2)).alloc (.cells #[.slice (some ⟨w.heap.size + 1 + 1, 0, none⟩) 0 0] 25)).alloc (.cells #[.slice (some ⟨w.heap.size + 1 + 1 + 1, 0, none⟩) 1 1] 40)).alloc (.cells #[] 2)).alloc (.cells #[.slice (some ⟨w.heap.size + 1 + 1 + 1 + 1 + 1, 0, none⟩) 0 0] 25)).alloc (.cells #[.slice ao zs.length cap] 25)).alloc (.cells #[.int .i64 2] 3)) = W5 at *
  clear hW5
  have HZ5 := Lib.hid (show ∀ i (_ : i < zs.length), b0 < w.heap.size ∧ W5.cell? ⟨b0, o0 + i, none⟩ = some (.int .i64 zs[i]) from fun i hi => ⟨(HC.out i hi).1, cnext hBW (HC.out i hi).2⟩)
  refine wpIn_rangeFunc_ownF rfl h1 (gf := 38) (lb := #[.pointer (some ⟨w.heap.size + 1 + 1 + 1 + 1 + 1 + 1 + 1, 0, none⟩), .pointer (some ⟨w.heap.size + 1 + 1 + 1 + 1 + 1 + 1 + 1 + 1, 0, none⟩)]) rfl trivial (enters_of Try.func38 (by kernel_rfl) rfl)
    (chunk_stops (3 - 1) (by omega) (w.heap.size + 1 + 1 + 1 + 1 + 1 + 1 + 1) (w.heap.size + 1 + 1 + 1 + 1 + 1 + 1 + 1 + 1) w.heap.size ao b0 o0 zs.length cap 2 q (by omega) (by omega) Hq.out hcap.1 hcap.2 hao W5 (by omega) (by omega) hx0.i0.cell hx0.i1.cell) (fun h k => Kp2.trans h k) (Kp2.put (w := W5) (by omega) (by omega) (by omega)) (Below.refl _ _) (fun _ => rfl)
    (fun pre W => GI zs w.heap.size (.slice ao zs.length cap) pre W ∧ Below w.heap.size W5 W)
    (fun c pre W => (c = .ret ∧ gdF zs (ckN pre) = none) ∧ (Boxed W w.heap.size 25 (.slice none 0 0) ∧ Boxed W (w.heap.size + 1) 4 (.bool false)) ∧ Below w.heap.size W5 W)
    (OwnFrom.and (Own.from (gi_own _ _ _ _) _) (ownFrom_below (by omega) (by omega)))
    (fun c => OwnFrom.and (ownFrom_pure _ (fun pre => c = .ret ∧ gdF zs (ckN pre) = none)) (OwnFrom.and (OwnFrom.and (Own.from (boxed_own _ _ (fun _ => _)) _) (Own.from (boxed_own _ _ (fun _ => _)) _)) (ownFrom_below (by omega) (by omega))))
    ⟨⟨_, _, _, [], rfl, rfl, (fun p hp => by obtain rfl := List.mem_singleton.1 hp; exact Nat.le_refl _), by simp, (fun z hz => by cases hz), hx0⟩, Below.refl _ _⟩
    (fun x => { tmps := #[.slice ao zs.length cap, .int .i64 n, undef, undef, .pointer (some ⟨w.heap.size, 0, none⟩), .pointer (some ⟨w.heap.size + 1, 0, none⟩), .pointer (some ⟨w.heap.size + 1 + 1 + 1 + 1, 0, none⟩), .pointer (some ⟨w.heap.size + 1 + 1 + 1 + 1 + 1 + 1, 0, none⟩), (.slice (some ⟨b0, o0 + 2 * x.1, none⟩) 2 2), undef, .int .i64 n, .bool true, .bool false, .bool false, .slice ao zs.length cap, .int .i64 zs.length, .int .i64 ((zs.length : Int) % 2), .bool false, .bool false, .bool false, .slice ao zs.length cap, .int .i64 zs.length, .bool false, .bool false, .slice (some ⟨w.heap.size + 1 + 1, 0, none⟩) 0 0, .slice (some ⟨w.heap.size + 1 + 1 + 1, 0, none⟩) 1 1, .slice (some ⟨w.heap.size + 1 + 1 + 1 + 1 + 1, 0, none⟩) 0 0, .slice ao zs.length cap, .func (.func 38) #[] #[.pointer (some ⟨w.heap.size + 1 + 1 + 1 + 1 + 1 + 1 + 1, 0, none⟩), .pointer (some ⟨w.heap.size + 1 + 1 + 1 + 1 + 1 + 1 + 1 + 1, 0, none⟩)], (.slice (some ⟨b0, o0 + 2 * x.1, none⟩) 2 2), undef, undef, undef, undef, undef, undef, undef, undef, undef, undef, undef, undef, undef, undef, undef, undef, undef, undef, undef, undef, undef, undef, undef, undef, undef, undef, undef, undef, undef, undef, undef, undef, undef, undef, undef, undef, undef, undef, undef, undef, undef, undef, undef, undef], defers := [] }) ?assign ?body ?done ?stop
  case assign =>
    intro l x W K hK
    gi_wp2
    exact hK
  case body =>
    rintro l pre ⟨k, hkq⟩ W ⟨⟨vw, vo, ws, out, hgd, hwl, hpl, hol, ho64, hgb⟩, hB⟩ hplq
    have Hsn := Lib.hid (show gdF zs (ckN (pre ++ [(⟨k, hkq⟩ : Ck q)])) = gdStep zs (ws.map Prod.snd, out) k by rw [ckN_snoc, gdF_snoc, hgd]; rfl)
    obtain ⟨aow, capw, rfl⟩ := hgb.st.hd.shape
    obtain ⟨aoo, capo, rfl⟩ := hgb.st.o.shape
    have HI0 := Lib.hid hgb.i0
    have HI1 := Lib.hid hgb.i1
    have Hpl := Lib.hid hpl
    have Ho64 := Lib.hid ho64
    have hwlA : ws.length ≤ pre.length + 1 := by omega
    have hwlB : pre.length + 1 ≤ ws.length := by omega
    have hq0 := Hq.out
    have hb0 := (HZ5.out (2 * k) (by omega)).1
    have hc0 := (hB.cell (p := ⟨b0, o0 + 2 * k, none⟩) hb0).trans (HZ5.out (2 * k) (by omega)).2
    have hc1 := (hB.cell (p := ⟨b0, o0 + (2 * k + 1), none⟩) hb0).trans (HZ5.out (2 * k + 1) (by omega)).2
    rw [← gq_eq0 (by omega)] at hc0
    rw [← gq_eq (by omega)] at hc1
    rw [← Nat.add_assoc] at hc1
    have hx64 := gq_i64 HI.out k 1 (by omega)
    have HA0 := Lib.hid (show ¬ inB (gq zs k 0) 0 ((ws.length : Int) - 1) = true → gdF zs (ckN (pre ++ [(⟨k, hkq⟩ : Ck q)])) = none from fun hno => by rw [Hsn.out, gdStep, if_neg (by simpa using hno)])
    have HA := Lib.hid (show inB (gq zs k 0) 0 ((ws.length : Int) - 1) = true → inB (gq zs k 0) 0 (((ws.map Prod.snd).length : Int) - 1) = true from fun h => by simpa using h)
    have Hnx0 := Lib.hid (show ∀ (p : Nat) (word : List Int), (ws[p]?).map Prod.snd = some word → gq zs k 0 = (p : Int) → nxt (ws.map Prod.snd) (gq zs k 0) (gq zs k 1) = if gq zs k 1 = -1 then word else word ++ [gq zs k 1] from fun p word hp he => by
      have hw : wordAt (ws.map Prod.snd) (gq zs k 0) = word := by
        unfold wordAt; rw [he, Int.toNat_natCast, List.getElem?_map, hp]; rfl
      unfold nxt; rw [hw])
    obtain ⟨a, ha⟩ : ∃ a, gq zs k 0 = a := ⟨_, rfl⟩
    obtain ⟨x, hx⟩ : ∃ x, gq zs k 1 = x := ⟨_, rfl⟩
    have Ha := Lib.hid ha
    have Hx := Lib.hid hx
    rw [ha] at hc0
    rw [hx] at hc1 hx64
    rw [ha, hx] at Hnx0
    rw [ha] at HA HA0
    have hbw := hgb.bw.cell
    have Hgb := Lib.hid hgb
    clear ha hx hq0 hgd hwl hpl ho64 hgb
    gi_wp2_with fail
    refine wpIn_region_held_tail 6 (S := fun W' => W'.cell? ⟨b0, o0 + 2 * k, none⟩ = some (.int .i64 a) ∧ W'.cell? ⟨w.heap.size + 1 + 1 + 1 + 1, 0, none⟩ = some (.slice aow ws.length capw)) (by kernel_rfl) (by kernel_rfl) (by decide +kernel) ?_ (fun hHeld => ?_)
    · (try go_split_ands); refine ⟨?_, ?_⟩ <;> first | assumption | exact cnext (by assumption) (by assumption) | exact bnext (by assumption) (by assumption) | exact Below.alloc (by assumption) (Below.size (by assumption)) _ | (go_keep; done)
    simp only [List.take_succ_cons, List.take_zero, List.drop_succ_cons, List.drop_zero, List.length_cons, List.length_nil, Nat.reduceAdd]
    refine wpAnyH_tk (i := 0) (v := ?_) (some 30) rfl rfl (by kernel_rfl) (by decide +kernel) (by decide +kernel) (fun _ _ _ h => h) (by kernel_rfl) ?_ hHeld ?_
    rotate_left
    · (intro w hSw; (try dsimp only at hSw); go_simp <;> with_reducible rfl)
    (try simp only [Act.put, List.setIfInBounds_toArray, List.set_cons_zero, List.set_cons_succ])
    refine wpAnyH_tk (i := 1) (v := ?_) (some 31) rfl rfl (by kernel_rfl) (by decide +kernel) (by decide +kernel) (fun _ _ _ h => h) (by kernel_rfl) ?_ hHeld ?_
    rotate_left
    · (intro w hSw; (try dsimp only at hSw); go_simp <;> with_reducible rfl)
    (try simp only [Act.put, List.setIfInBounds_toArray, List.set_cons_zero, List.set_cons_succ])
    refine wpAnyH_tk (i := 2) (v := ?_) (some 32) rfl rfl (by kernel_rfl) (by decide +kernel) (by decide +kernel) (fun _ _ _ h => h) (by kernel_rfl) ?_ hHeld ?_
    rotate_left
    · (intro w hSw; (try dsimp only at hSw); go_simp <;> with_reducible rfl)
    (try simp only [Act.put, List.setIfInBounds_toArray, List.set_cons_zero, List.set_cons_succ])
    refine wpAnyH_tk (i := 3) (v := ?_) (some 33) rfl rfl (by kernel_rfl) (by decide +kernel) (by decide +kernel) (fun _ _ _ h => h) (by kernel_rfl) ?_ hHeld ?_
    rotate_left
    · (intro w hSw; (try dsimp only at hSw); go_simp <;> with_reducible rfl)
    (try simp only [Act.put, List.setIfInBounds_toArray, List.set_cons_zero, List.set_cons_succ])
    refine wpAnyH_tk (i := 4) (v := ?_) (some 34) rfl rfl (by kernel_rfl) (by decide +kernel) (by decide +kernel) (fun _ _ _ h => h) (by kernel_rfl) ?_ hHeld ?_
    rotate_left
    · (intro w hSw; (try dsimp only at hSw); go_simp <;> with_reducible rfl)
    (try simp only [Act.put, List.setIfInBounds_toArray, List.set_cons_zero, List.set_cons_succ])
    refine wpAnyH_tk (i := 5) (v := ?_) (some 35) rfl rfl (by kernel_rfl) (by decide +kernel) (by decide +kernel) (fun _ _ _ h => h) (by kernel_rfl) ?_ hHeld ?_
    rotate_left
    · (intro w hSw; (try dsimp only at hSw); go_simp <;> with_reducible rfl)
    (try simp only [Act.put, List.setIfInBounds_toArray, List.set_cons_zero, List.set_cons_succ])
    refine wpAnyH_done (by kernel_rfl) ?_ _
    show wpList _ _ _ _ _ _
    have hgb1 : Gb w.heap.size (.slice ao zs.length cap) W.drew ws out _ _ := Hgb.out.below (below_drewN W 1)
    have ko1 : KeepsOthers W W.drew := KeepsOthers.drew W
    have lo1 : Below w.heap.size W W.drew := (below_drewN W 1).mono (by have := Hgb.out.bw.lt; omega)
    have hc0 : W.drew.cell? ⟨b0, o0 + 2 * k, none⟩ = some (.int .i64 a) := hc0
    have hc1 : W.drew.cell? ⟨b0, o0 + 2 * k + 1, none⟩ = some (.int .i64 x) := hc1
    clear hHeld hbw
    generalize W.drew = wr at *
    by_cases hA : inB a 0 ((ws.length : Int) - 1) = true
    · go_wp2_with (go_at_call 26; refine (within_any _ _ _ _).mono ?_; rw [hA]; rintro e w' ⟨rfl, rfl⟩)
      refine NoOut.nrm ?_
      have hAA := inB_eq hA
      simp only [if_true] at hAA
      obtain ⟨p, rfl⟩ := Int.eq_ofNat_of_zero_le hAA.1
      have hpw : p < ws.length := by omega
      have hpI : (p : Int) < (ws.length : Int) := by omega
      obtain ⟨gw, _, e, hcw⟩ := hgb1.st.hd.at p hpw
      simp only [Value.slice.injEq, true_and] at e
      obtain ⟨rfl, rfl⟩ := e
      have hri := hgb1.st.rd _ (List.getElem_mem hpw)
      have hwl2 := Hpl.out _ (List.getElem_mem hpw)
      have Hnx1 := Lib.hid (Hnx0.out p ws[p].2 (by rw [List.getElem?_eq_getElem hpw]; rfl) rfl)
      have HA2' := Lib.hid (HA.out hA)
      clear HA0 Hnx0
      generalize ws[p] = pw at *
      obtain ⟨wv, word⟩ := pw
      replace hcw : wr.cell? ⟨gw, p, none⟩ = some wv := hcw
      replace hri : RI wr wv word := hri
      replace hwl2 : word.length ≤ pre.length := hwl2
      have hbw := hgb1.bw.cell
      clear hA
      gi_wp2_with fail
      refine wpIn_region_held_tail 6 (S := fun W' => W'.cell? ⟨b0, o0 + 2 * k, none⟩ = some (.int .i64 (p : Int)) ∧ W'.cell? ⟨w.heap.size + 1 + 1 + 1 + 1, 0, none⟩ = some (.slice (some ⟨gw, 0, none⟩) ws.length capw) ∧ W'.cell? ⟨gw, p, none⟩ = some wv) (by kernel_rfl) (by kernel_rfl) (by decide +kernel) ?_ (fun hHeld => ?_)
      · (try go_split_ands); refine ⟨?_, ?_, ?_⟩ <;> first | assumption | exact cnext (by assumption) (by assumption) | exact bnext (by assumption) (by assumption) | exact Below.alloc (by assumption) (Below.size (by assumption)) _ | (go_keep; done)
      simp only [List.take_succ_cons, List.take_zero, List.drop_succ_cons, List.drop_zero, List.length_cons, List.length_nil, Nat.reduceAdd]
      refine wpAnyH_tk (i := 0) (v := ?_) (some 38) rfl rfl (by kernel_rfl) (by decide +kernel) (by decide +kernel) (fun _ _ _ h => h) (by kernel_rfl) ?_ hHeld ?_
      rotate_left
      · (intro w hSw; (try dsimp only at hSw); go_simp <;> with_reducible rfl)
      (try simp only [Act.put, List.setIfInBounds_toArray, List.set_cons_zero, List.set_cons_succ])
      refine wpAnyH_tk (i := 1) (v := ?_) (some 39) rfl rfl (by kernel_rfl) (by decide +kernel) (by decide +kernel) (fun _ _ _ h => h) (by kernel_rfl) ?_ hHeld ?_
      rotate_left
      · (intro w hSw; (try dsimp only at hSw); go_simp <;> with_reducible rfl)
      (try simp only [Act.put, List.setIfInBounds_toArray, List.set_cons_zero, List.set_cons_succ])
      refine wpAnyH_tk (i := 2) (v := ?_) (some 40) rfl rfl (by kernel_rfl) (by decide +kernel) (by decide +kernel) (fun _ _ _ h => h) (by kernel_rfl) ?_ hHeld ?_
      rotate_left
      · (intro w hSw; (try dsimp only at hSw); go_simp <;> with_reducible rfl)
      (try simp only [Act.put, List.setIfInBounds_toArray, List.set_cons_zero, List.set_cons_succ])
      refine wpAnyH_tk (i := 3) (v := ?_) (some 41) rfl rfl (by kernel_rfl) (by decide +kernel) (by decide +kernel) (fun _ _ _ h => h) (by kernel_rfl) ?_ hHeld ?_
      rotate_left
      · (intro w hSw; (try dsimp only at hSw); go_simp <;> with_reducible rfl)
      (try simp only [Act.put, List.setIfInBounds_toArray, List.set_cons_zero, List.set_cons_succ])
      refine wpAnyH_tk (i := 4) (v := ?_) (some 42) rfl rfl (by kernel_rfl) (by decide +kernel) (by decide +kernel) (fun _ _ _ h => h) (by kernel_rfl) ?_ hHeld ?_
      rotate_left
      · (intro w hSw; (try dsimp only at hSw); go_simp <;> with_reducible rfl)
      (try simp only [Act.put, List.setIfInBounds_toArray, List.set_cons_zero, List.set_cons_succ])
      refine wpAnyH_tk (i := 5) (v := ?_) (some 43) rfl rfl (by kernel_rfl) (by decide +kernel) (by decide +kernel) (fun _ _ _ h => h) (by kernel_rfl) ?_ hHeld ?_
      rotate_left
      · (intro w hSw; (try dsimp only at hSw); go_simp <;> with_reducible rfl)
      (try simp only [Act.put, List.setIfInBounds_toArray, List.set_cons_zero, List.set_cons_succ])
      refine wpAnyH_done (by kernel_rfl) ?_ _
      show wpList _ _ _ _ _ _
      have hgb2 : Gb w.heap.size (.slice ao zs.length cap) wr.drew ws out _ _ := hgb1.below (below_drewN wr 1)
      have ko2 : KeepsOthers W wr.drew := ko1.trans (KeepsOthers.drew wr)
      have hsz2 : w.heap.size ≤ wr.drew.heap.size := by have := hgb2.bw.lt; omega
      have lo2 : Below w.heap.size W wr.drew := lo1.trans ((below_drewN wr 1).mono hsz2)
      have hri2 : RI wr.drew wv word := hri.below (below_drewN wr 1)
      have Hri := Lib.hid hri2.1
      have hc1 : wr.drew.cell? ⟨b0, o0 + 2 * k + 1, none⟩ = some (.int .i64 x) := hc1
      clear hHeld hbw hgb1 ko1 lo1 hri hc0 hcw
      generalize wr.drew = wr2 at *
      go_wp2_with fail
      refine (cloneO_any _ word _ hri2 (by omega)).mono ?_
      rintro e w2 ⟨v2, rfl, hown2, hB2⟩
      have hc1 := cnext hB2 hc1
      clear hri2
      go_wp2
      refine NoOut.nrm ?_
      by_cases hx1 : x = -1
      · have hxn : (x != -1) = false := by simp [hx1]
        have Hnxt := Lib.hid (show nxt (ws.map Prod.snd) (gq zs k 0) (gq zs k 1) = word by rw [Ha.out, Hx.out, Hnx1.out, if_pos hx1])
        have HA2 := Lib.hid (show inB (gq zs k 0) 0 (((ws.map Prod.snd).length : Int) - 1) = true by rw [Ha.out]; exact HA2'.out)
        have Hn64 := Lib.hid Hri.out
        have Hnl := Lib.hid (show word.length ≤ pre.length + 1 by omega)
        have hnl0 : word.length ≤ 65 := by omega
        obtain ⟨nv, rfl⟩ : ∃ nv, nv = v2 := ⟨_, rfl⟩
        have hownn := hown2
        have hBn := hB2
        obtain ⟨w3, rfl⟩ : ∃ w3, w3 = w2 := ⟨_, rfl⟩
        clear hx1 hown2 hB2
        have hgb3 := hgb2.below hBn
        have hszn := hBn.size
        have Hnew := Lib.hid (show ∀ j, nv.ownBlock = some j → j < w3.heap.size ∧ (Value.slice (some ⟨gw, 0, none⟩) ws.length capw).ownBlock ≠ some j ∧ (Value.slice aoo out.length capo).ownBlock ≠ some j ∧ ¬ GF w.heap.size j from fun j hj => by
          have h1 := hownn.lt j hj
          refine ⟨h1.2, fun e => ?_, fun e => ?_, fun e => ?_⟩
          · have := (World.ownsRow.lt hgb2.st.hd j e).2; omega
          · have := (hgb2.st.o.lt j e).2; omega
          · have := (hgb2.st.av j e).1; omega)
        have Hrn := Lib.hid (hownn.oi Hn64.out).ri
        have hko3 : KeepsOthers W w3 := ko2.trans (keepsOf_below' hBn)
        have hlo3 : Below w.heap.size W w3 := lo2.trans (hBn.mono hsz2)
        have Hko3 := Lib.hid hko3
        have Hlo3 := Lib.hid hlo3
        have Hgb3 := Lib.hid hgb3
        obtain ⟨aon, capn, rfl⟩ := hownn.shape
        have hsz3 : w.heap.size + 1 + 1 ≤ w3.heap.size := by have := hgb3.bw.lt; omega
        have hbw3 := hgb3.bw.cell
        clear hgb3 hownn hBn hko3 hlo3 hgb2 ko2 lo2 hszn
        generalize word = nx at *
        gi_wp2_with (gi_at_builtin; go_must (refine wpListIn_of _ rfl _ _ (app_row_at rfl _ _ rfl (w.heap.size + 1 + 1) w.heap.size (by omega) (.slice (some ⟨gw, 0, none⟩) ws.length capw) ws rfl Hgb3.out.st.hd (Below.refl w.heap.size w3) _ _ (Value.slice aon nx.length capn, nx) rfl rfl rfl (by omega) hsz3 ?_)))
        intro v5 w5 hown5 hB5 hg5 hat5
        have H5 := Lib.hid (Hgb3.out.word (p := (Value.slice aon nx.length capn, nx)) Hrn.out Hnew.out hown5 hg5 hat5)
        have hb5 := (Hgb3.out.bw.alloc _).kept hg5 (gf_ne (by simp [GF]) Hgb3.out.st (.inl rfl))
        have hbc5 := hb5.cell
        have hbf5 := hb5.frozen
        have Hwl5 := Lib.hid (show (ws ++ [(Value.slice aon nx.length capn, nx)]).length = ws.length + 1 by simp)
        have Hws5 := Lib.hid (show (ws ++ [(Value.slice aon nx.length capn, nx)]).map Prod.snd = ws.map Prod.snd ++ [nx] by simp)
        have Hpl5 := Lib.hid (show ∀ p ∈ ws ++ [(Value.slice aon nx.length capn, nx)], p.2.length ≤ pre.length + 1 from fun p hp => by
          rcases List.mem_append.1 hp with hp | hp
          · have := Hpl.out p hp; omega
          · obtain rfl := List.mem_singleton.1 hp; exact Hnl.out)
        have Hr5 := Lib.hid (H5.out.1.st.rd _ (List.mem_append_right _ (List.mem_singleton.2 rfl))).2
        obtain ⟨aw5, cw5, rfl⟩ := hown5.shape
        clear hown5 hB5 hg5 hat5 hb5 hbw3 hsz3
        generalize ws ++ [(Value.slice aon nx.length capn, nx)] = ws5 at *
        go_wp2
        refine NoOut.nrm ?_
        have hko5 : KeepsOthers W _ := Hko3.out.trans H5.out.2.1
        have hlo5 : Below w.heap.size W _ := Hlo3.out.trans H5.out.2.2
        have Hgb5 := Lib.hid H5.out.1
        clear H5 Hgb3 Hko3 Hlo3 hbc5 hbf5
        generalize w5.setCell ⟨w.heap.size + 1 + 1 + 1 + 1, 0, none⟩ (.slice aw5 ws5.length cw5) = w7 at *
        have Hko5 := Lib.hid hko5
        have Hlo5 := Lib.hid hlo5
        have hbo5 := Hgb5.out.bo.cell
        have hsz5 : w.heap.size + 1 + 1 ≤ w7.heap.size := by have := Hgb5.out.bw.lt; omega
        have hnl := Hnl.out
        clear hko5 hlo5
        gi_wp2_with (gi_at_builtin; go_must (refine wpListIn_of _ rfl _ _ (app_src_at rfl _ _ rfl (w.heap.size + 1 + 1) w.heap.size (by omega) (.slice aoo out.length capo) out rfl Hgb5.out.st.o (Below.refl w.heap.size w7) nx _ rfl Hr5.out (by omega) hsz5 ?_)))
        intro v8 w8 hown8 hB8 hg8 hat8
        have H8 := Lib.hid (Hgb5.out.text hown8 hg8 hat8)
        have hb8 := Hgb5.out.bo.kept hg8 (gf_ne (by simp [GF]) Hgb5.out.st (.inr rfl))
        have hbc8 := hb8.cell
        have hbf8 := hb8.frozen
        have Ho8 := Lib.hid (show AllI64 (out ++ nx) from fun z hz => by rcases List.mem_append.1 hz with hz | hz; exact Ho64.out z hz; exact Hn64.out z hz)
        have Hol8 := Lib.hid (show (out ++ nx).length = out.length + nx.length by simp)
        have HS8 := Lib.hid (show gdF zs (ckN (pre ++ [(⟨k, hkq⟩ : Ck q)])) = some (ws5.map Prod.snd, out ++ nx) by rw [Hsn.out, gdStep, if_pos HA2.out, Hnxt.out, Hws5.out])
        obtain ⟨ao8, cap8, rfl⟩ := hown8.shape
        clear hown8 hB8 hg8 hat8 hb8 hbo5 hsz5
        generalize out ++ nx = out8 at *
        go_wp2
        refine NoOut.nrm ?_
        gi_wp2
        have h8 := H8.out
        refine ⟨Hko5.out.trans h8.2.1, ⟨Hlo5.out.trans h8.2.2, (h8.1.i0 : _ = _).trans HI0.out.symm, (h8.1.i1 : _ = _).trans HI1.out.symm⟩, ⟨_, _, ws5, out8, HS8.out, by rw [Hwl5.out, List.length_append, List.length_singleton]; omega, by rw [List.length_append, List.length_singleton]; exact Hpl5.out, by rw [List.length_append, List.length_singleton, Hol8.out]; omega, Ho8.out, h8.1⟩, hB.trans (Hlo5.out.trans h8.2.2)⟩
      · have hxn : (x != -1) = true := by simp [hx1]
        have Hnxt := Lib.hid (show nxt (ws.map Prod.snd) (gq zs k 0) (gq zs k 1) = word ++ [x] by rw [Ha.out, Hx.out, Hnx1.out, if_neg hx1])
        have HA2 := Lib.hid (show inB (gq zs k 0) 0 (((ws.map Prod.snd).length : Int) - 1) = true by rw [Ha.out]; exact HA2'.out)
        have Hn64 := Lib.hid (show AllI64 (word ++ [x]) from fun z hz => by rcases List.mem_append.1 hz with hz | hz; exact Hri.out z hz; obtain rfl := List.mem_singleton.1 hz; exact hx64)
        have Hnl := Lib.hid (show (word ++ [x]).length ≤ pre.length + 1 by simp; omega)
        have hs2 := hB2.size
        clear hx1
        gi_wp2_with (gi_at_builtin; go_must (refine wpListIn_of _ rfl _ _ (app_ints rfl _ _ rfl wr2.heap.size wr2.heap.size (Nat.le_refl _) v2 word rfl hown2 hB2 _ _ [x] rfl rfl (by simp; omega) hs2 ?_)))
        intro nv w3 hownn hBn hgn
        clear hown2 hB2 hgn hs2 hc1
        go_wp2
        refine NoOut.nrm ?_
        have hgb3 := hgb2.below hBn
        have hszn := hBn.size
        have Hnew := Lib.hid (show ∀ j, nv.ownBlock = some j → j < w3.heap.size ∧ (Value.slice (some ⟨gw, 0, none⟩) ws.length capw).ownBlock ≠ some j ∧ (Value.slice aoo out.length capo).ownBlock ≠ some j ∧ ¬ GF w.heap.size j from fun j hj => by
          have h1 := hownn.lt j hj
          refine ⟨h1.2, fun e => ?_, fun e => ?_, fun e => ?_⟩
          · have := (World.ownsRow.lt hgb2.st.hd j e).2; omega
          · have := (hgb2.st.o.lt j e).2; omega
          · have := (hgb2.st.av j e).1; omega)
        have Hrn := Lib.hid (hownn.oi Hn64.out).ri
        have hko3 : KeepsOthers W w3 := ko2.trans (keepsOf_below' hBn)
        have hlo3 : Below w.heap.size W w3 := lo2.trans (hBn.mono hsz2)
        have Hko3 := Lib.hid hko3
        have Hlo3 := Lib.hid hlo3
        have Hgb3 := Lib.hid hgb3
        obtain ⟨aon, capn, rfl⟩ := hownn.shape
        have hsz3 : w.heap.size + 1 + 1 ≤ w3.heap.size := by have := hgb3.bw.lt; omega
        have hbw3 := hgb3.bw.cell
        clear hgb3 hownn hBn hko3 hlo3 hgb2 ko2 lo2 hszn
        generalize word ++ [x] = nx at *
        gi_wp2_with (gi_at_builtin; go_must (refine wpListIn_of _ rfl _ _ (app_row_at rfl _ _ rfl (w.heap.size + 1 + 1) w.heap.size (by omega) (.slice (some ⟨gw, 0, none⟩) ws.length capw) ws rfl Hgb3.out.st.hd (Below.refl w.heap.size w3) _ _ (Value.slice aon nx.length capn, nx) rfl rfl rfl (by omega) hsz3 ?_)))
        intro v5 w5 hown5 hB5 hg5 hat5
        have H5 := Lib.hid (Hgb3.out.word (p := (Value.slice aon nx.length capn, nx)) Hrn.out Hnew.out hown5 hg5 hat5)
        have hb5 := (Hgb3.out.bw.alloc _).kept hg5 (gf_ne (by simp [GF]) Hgb3.out.st (.inl rfl))
        have hbc5 := hb5.cell
        have hbf5 := hb5.frozen
        have Hwl5 := Lib.hid (show (ws ++ [(Value.slice aon nx.length capn, nx)]).length = ws.length + 1 by simp)
        have Hws5 := Lib.hid (show (ws ++ [(Value.slice aon nx.length capn, nx)]).map Prod.snd = ws.map Prod.snd ++ [nx] by simp)
        have Hpl5 := Lib.hid (show ∀ p ∈ ws ++ [(Value.slice aon nx.length capn, nx)], p.2.length ≤ pre.length + 1 from fun p hp => by
          rcases List.mem_append.1 hp with hp | hp
          · have := Hpl.out p hp; omega
          · obtain rfl := List.mem_singleton.1 hp; exact Hnl.out)
        have Hr5 := Lib.hid (H5.out.1.st.rd _ (List.mem_append_right _ (List.mem_singleton.2 rfl))).2
        obtain ⟨aw5, cw5, rfl⟩ := hown5.shape
        clear hown5 hB5 hg5 hat5 hb5 hbw3 hsz3
        generalize ws ++ [(Value.slice aon nx.length capn, nx)] = ws5 at *
        go_wp2
        refine NoOut.nrm ?_
        have hko5 : KeepsOthers W _ := Hko3.out.trans H5.out.2.1
        have hlo5 : Below w.heap.size W _ := Hlo3.out.trans H5.out.2.2
        have Hgb5 := Lib.hid H5.out.1
        clear H5 Hgb3 Hko3 Hlo3 hbc5 hbf5
        generalize w5.setCell ⟨w.heap.size + 1 + 1 + 1 + 1, 0, none⟩ (.slice aw5 ws5.length cw5) = w7 at *
        have Hko5 := Lib.hid hko5
        have Hlo5 := Lib.hid hlo5
        have hbo5 := Hgb5.out.bo.cell
        have hsz5 : w.heap.size + 1 + 1 ≤ w7.heap.size := by have := Hgb5.out.bw.lt; omega
        have hnl := Hnl.out
        clear hko5 hlo5
        gi_wp2_with (gi_at_builtin; go_must (refine wpListIn_of _ rfl _ _ (app_src_at rfl _ _ rfl (w.heap.size + 1 + 1) w.heap.size (by omega) (.slice aoo out.length capo) out rfl Hgb5.out.st.o (Below.refl w.heap.size w7) nx _ rfl Hr5.out (by omega) hsz5 ?_)))
        intro v8 w8 hown8 hB8 hg8 hat8
        have H8 := Lib.hid (Hgb5.out.text hown8 hg8 hat8)
        have hb8 := Hgb5.out.bo.kept hg8 (gf_ne (by simp [GF]) Hgb5.out.st (.inr rfl))
        have hbc8 := hb8.cell
        have hbf8 := hb8.frozen
        have Ho8 := Lib.hid (show AllI64 (out ++ nx) from fun z hz => by rcases List.mem_append.1 hz with hz | hz; exact Ho64.out z hz; exact Hn64.out z hz)
        have Hol8 := Lib.hid (show (out ++ nx).length = out.length + nx.length by simp)
        have HS8 := Lib.hid (show gdF zs (ckN (pre ++ [(⟨k, hkq⟩ : Ck q)])) = some (ws5.map Prod.snd, out ++ nx) by rw [Hsn.out, gdStep, if_pos HA2.out, Hnxt.out, Hws5.out])
        obtain ⟨ao8, cap8, rfl⟩ := hown8.shape
        clear hown8 hB8 hg8 hat8 hb8 hbo5 hsz5
        generalize out ++ nx = out8 at *
        go_wp2
        refine NoOut.nrm ?_
        gi_wp2
        have h8 := H8.out
        refine ⟨Hko5.out.trans h8.2.1, ⟨Hlo5.out.trans h8.2.2, (h8.1.i0 : _ = _).trans HI0.out.symm, (h8.1.i1 : _ = _).trans HI1.out.symm⟩, ⟨_, _, ws5, out8, HS8.out, by rw [Hwl5.out, List.length_append, List.length_singleton]; omega, by rw [List.length_append, List.length_singleton]; exact Hpl5.out, by rw [List.length_append, List.length_singleton, Hol8.out]; omega, Ho8.out, h8.1⟩, hB.trans (Hlo5.out.trans h8.2.2)⟩
    · have hA' : inB a 0 ((ws.length : Int) - 1) = false := by simpa using hA
      have HNone := Lib.hid (HA0.out hA)
      go_wp2_with (go_at_call 26; refine (within_any _ _ _ _).mono ?_; rw [hA']; rintro e w' ⟨rfl, rfl⟩)
      refine NoOut.nrm ?_
      have hno := hgb1.no
      have q0 := hgb1.r0.cell
      have q1 := hgb1.r0.frozen
      have q2 := hgb1.r1.cell
      have q3 := hgb1.r1.frozen
      have Hno := Lib.hid (And.intro (ko1.trans hno.1) (And.intro hno.2.1 (And.intro hno.2.2.1 (hB.trans (lo1.trans hno.2.2.2)))))
      clear hno hgb1 ko1 lo1 hc0 hc1
      gi_wp2_with fail
      exact ⟨Hno.out.1, ⟨⟨rfl, HNone.out⟩, ⟨Hno.out.2.1, Hno.out.2.2.1⟩, Hno.out.2.2.2⟩⟩
  case done =>
    rintro D ys W hD hys ⟨⟨vw, vo, ws, out, hgd, hwl, hpl, hol, ho64, hgb⟩, hB⟩ hK
    rw [hys] at hgd
    have HO2 := Lib.hid (show gtO zs n = if txt out n = true ∧ eqL (gpF out [] [] 0) zs = true then some out else none by rw [HO.out, hgd]; rfl)
    obtain ⟨aoo, capo, rfl⟩ := hgb.st.o.shape
    have hown := hgb.st.o
    have Hi64 := Lib.hid ho64
    have hri := (hown.oi ho64).ri
    have hvc := hgb.bo.cell
    have hr0 := hgb.r0
    have hr1 := hgb.r1
    have hBo := hgb.bo
    have hBw := hBW.trans hB
    have hne0 : w.heap.size ≠ D := by omega
    have hne1 : w.heap.size + 1 ≠ D := by omega
    clear hgd hwl hpl hol ho64 hgb hys
    by_cases hx : txt out n = true
    · have hl64 := txt_len hx
      gi_wp2_with (refine ⟨trivial, ?_⟩; gi_at_call 20; refine (callsIn_wide.2 (isText_any _ out _ _ hri)).mono ?_; rw [hx]; rintro e w1 ⟨rfl, rfl⟩)
      refine ⟨trivial, ?_⟩
      gi_at_call 21
      refine (callsIn_wide.2 (growPairs_any _ out _ hri hl64)).mono ?_
      rintro e w1 ⟨v1, rfl, ho1, hb1⟩
      have hri1 := ho1.ri
      have hrz1 := (HH.out.below (hBw)).below hb1
      have hDlt := blk_lt hK
      have hK := (hb1.block D hDlt).trans hK
      have hr0 : Boxed w1 w.heap.size 25 (.slice none 0 0) := blk_next hb1 hr0
      have hr1 : Boxed w1 (w.heap.size + 1) 4 (.bool false) := blk_next hb1 hr1
      have hBo : Boxed w1 (w.heap.size + 1 + 1 + 1 + 1 + 1 + 1) 25 (.slice aoo out.length capo) := blk_next hb1 hBo
      have hown := own_below hb1 hown
      have hBw := hBw.trans (hb1.mono (by have := hBw.size; omega))
      clear hvc ho1 hb1 hri
      obtain ⟨y, hy⟩ : ∃ y, eqL (gpF out [] [] 0) zs = y := ⟨_, rfl⟩
      have Heq := Lib.hid (show Calls Try.prog 28 #[v1, .slice ao zs.length cap] w1 fun e w' => e = .returned (.bool y) ∧ ∃ n, w' = w1.drewN n from by rw [← hy]; exact slEqual_any _ _ _ zs _ hri1 hrz1)
      have Hy := Lib.hid hy
      clear hri1 hrz1 hy hDlt
      gi_wp2_with fail
      refine ⟨trivial, ?_⟩
      gi_at_call 28
      refine (callsIn_wide.2 Heq.out).mono ?_
      rintro e w2 ⟨rfl, m, rfl⟩
      clear Heq
      have hK : (w1.drewN m).heap[D]? = some (.deferred (some [])) := hK
      have hr0 : Boxed (w1.drewN m) w.heap.size 25 (.slice none 0 0) := hr0
      have hr1 : Boxed (w1.drewN m) (w.heap.size + 1) 4 (.bool false) := hr1
      have hBo : Boxed (w1.drewN m) (w.heap.size + 1 + 1 + 1 + 1 + 1 + 1) 25 (.slice aoo out.length capo) := hBo
      have hown : OwnI (w.heap.size + 1 + 1) (w1.drewN m) (.slice aoo out.length capo) out := own_below (below_drewN w1 m) hown
      have hBw := hBw.trans ((below_drewN w1 m).mono (by have := hBw.size; omega))
      generalize w1.drewN m = wz at *
      have hvc := hBo.cell
      have q0 := hr0.cell
      have q1 := hr0.frozen
      have q2 := hr1.cell
      have q3 := hr1.frozen
      clear hBo
      cases y with
      | true =>
        have HZ := Lib.hid (gt_some (HO2.out.trans (if_pos ⟨hx, Hy.out⟩)))
        have hK2 := ((KeepsOthers.setCell wz ⟨w.heap.size, 0, none⟩ (.slice aoo out.length capo)).trans (KeepsOthers.setCell _ ⟨w.heap.size + 1, 0, none⟩ (.bool true))).same D _ hK rfl
        have b0' := (hr0.set (.slice aoo out.length capo)).other (B' := w.heap.size + 1) (by omega) (.bool true)
        have b1' := (hr1.other (B' := w.heap.size) (by omega) (.slice aoo out.length capo)).set (.bool true)
        have hBl := (hBw.setCell (p := ⟨w.heap.size, 0, none⟩) (Nat.le_refl _) (.slice aoo out.length capo)).setCell (p := ⟨w.heap.size + 1, 0, none⟩) (by show w.heap.size ≤ w.heap.size + 1; omega) (.bool true)
        have hown2 := (hown.set ⟨w.heap.size, 0, none⟩ (.slice aoo out.length capo) (by show w.heap.size < _; omega)).set ⟨w.heap.size + 1, 0, none⟩ (.bool true) (by show w.heap.size + 1 < _; omega)
        have Hall := Lib.hid (And.intro hK2 (And.intro b0' (And.intro b1' (And.intro hBl hown2))))
        clear hK2 b0' b1' hBl hK hBw hown2 hown hr0 hr1
        gi_wp2
        obtain ⟨hK2, b0', b1', hBl, hown2⟩ := Hall.out
        refine ⟨by simp, .inl ⟨_, _, rfl, run_takeDeferred hK2, ?_⟩⟩
        have c0 := (Boxed.kept b0' (grownBy_putObj' _ D (.deferred none)) (fun e => hne0 (by cases e; rfl))).cell
        have c1 := (Boxed.kept b1' (grownBy_putObj' _ D (.deferred none)) (fun e => hne1 (by cases e; rfl))).cell
        have hrf : OwnI _ _ _ out := ownsRow_putObj hown2 (.deferred none) hK2 rfl
        exact ⟨.tuple #[.slice aoo out.length capo, .bool true], by simp [results, Try.results9, go_sem, c0, c1], ⟨_, by rw [HZ.out.2], by rw [HZ.out.1]; exact (hrf.oi Hi64.out).mono (by omega), hBl.trans (belowK_b (w := w) (Nat.le_refl _) _ D _ _ (by omega) hK2 rfl rfl)⟩⟩
      | false =>
        have HZ := Lib.hid (gt_none (HO2.out.trans (if_neg (fun h => by have := h.2; rw [Hy.out] at this; cases this))))
        clear hvc
        have hK2 := ((KeepsOthers.setCell wz ⟨w.heap.size, 0, none⟩ (.slice none 0 0)).trans (KeepsOthers.setCell _ ⟨w.heap.size + 1, 0, none⟩ (.bool false))).same D _ hK rfl
        have b0' := (hr0.set (.slice none 0 0)).other (B' := w.heap.size + 1) (by omega) (.bool false)
        have b1' := (hr1.other (B' := w.heap.size) (by omega) (.slice none 0 0)).set (.bool false)
        have hBl := (hBw.setCell (p := ⟨w.heap.size, 0, none⟩) (Nat.le_refl _) (.slice none 0 0)).setCell (p := ⟨w.heap.size + 1, 0, none⟩) (by show w.heap.size ≤ w.heap.size + 1; omega) (.bool false)
        have Hall := Lib.hid (And.intro hK2 (And.intro b0' (And.intro b1' hBl)))
        clear hK2 b0' b1' hBl hK hBw hown hr0 hr1
        gi_wp2
        obtain ⟨hK2, b0', b1', hBl⟩ := Hall.out
        refine ⟨by simp, .inl ⟨_, _, rfl, run_takeDeferred hK2, ?_⟩⟩
        have c0 := (Boxed.kept b0' (grownBy_putObj' _ D (.deferred none)) (fun e => hne0 (by cases e; rfl))).cell
        have c1 := (Boxed.kept b1' (grownBy_putObj' _ D (.deferred none)) (fun e => hne1 (by cases e; rfl))).cell
        exact ⟨.tuple #[.slice none 0 0, .bool false], by simp [results, Try.results9, go_sem, c0, c1], ⟨_, by rw [HZ.out.2], by rw [HZ.out.1]; exact OI.nil _ _, hBl.trans (belowK_b (w := w) (Nat.le_refl _) _ D _ _ (by omega) hK2 rfl rfl)⟩⟩
    · have hx' : txt out n = false := by simpa using hx
      have HZ := Lib.hid (gt_none (HO2.out.trans (if_neg (fun h => hx h.1))))
      have q0 := hr0.cell
      have q1 := hr0.frozen
      have q2 := hr1.cell
      have q3 := hr1.frozen
      clear hBo
      have hK2 := ((KeepsOthers.setCell W ⟨w.heap.size, 0, none⟩ (.slice none 0 0)).trans (KeepsOthers.setCell _ ⟨w.heap.size + 1, 0, none⟩ (.bool false))).same D _ hK rfl
      have b0' := (hr0.set (.slice none 0 0)).other (B' := w.heap.size + 1) (by omega) (.bool false)
      have b1' := (hr1.other (B' := w.heap.size) (by omega) (.slice none 0 0)).set (.bool false)
      have hBl := (hBw.setCell (p := ⟨w.heap.size, 0, none⟩) (Nat.le_refl _) (.slice none 0 0)).setCell (p := ⟨w.heap.size + 1, 0, none⟩) (by show w.heap.size ≤ w.heap.size + 1; omega) (.bool false)
      have Hall := Lib.hid (And.intro hK2 (And.intro b0' (And.intro b1' hBl)))
      clear hK2 b0' b1' hBl hK hBw hown hr0 hr1
      gi_wp2_with (first | (refine ⟨trivial, ?_⟩; gi_at_call 20; refine (callsIn_wide.2 (isText_any _ out _ _ hri)).mono ?_; rw [hx']; rintro e w1 ⟨rfl, rfl⟩) | (refine ⟨(trivial : Fence.wide.fn _), ?_⟩))
      obtain ⟨hK2, b0', b1', hBl⟩ := Hall.out
      refine ⟨by simp, .inl ⟨_, _, rfl, run_takeDeferred hK2, ?_⟩⟩
      have c0 := (Boxed.kept b0' (grownBy_putObj' _ D (.deferred none)) (fun e => hne0 (by cases e; rfl))).cell
      have c1 := (Boxed.kept b1' (grownBy_putObj' _ D (.deferred none)) (fun e => hne1 (by cases e; rfl))).cell
      exact ⟨.tuple #[.slice none 0 0, .bool false], by simp [results, Try.results9, go_sem, c0, c1], ⟨_, by rw [HZ.out.2], by rw [HZ.out.1]; exact OI.nil _ _, hBl.trans (belowK_b (w := w) (Nat.le_refl _) _ D _ _ (by omega) hK2 rfl rfl)⟩⟩
  case stop =>
    rintro D c pre W hD ⟨k, hk⟩ ⟨⟨rfl, hno⟩, ⟨hr0, hr1⟩, hB⟩ hK
    have hkq : k ≤ q := by
      refine Classical.byContradiction fun hn => ?_
      have hm : q ∈ ckN pre := by rw [hk]; exact List.mem_range.2 (by omega)
      obtain ⟨x, -, hx⟩ := List.mem_map.1 hm
      have := x.2
      omega
    have HZ := Lib.hid (gt_none (show gtO zs n = none by rw [HO.out, gdF_none_le hkq (by rw [← hk]; exact hno)]; rfl))
    have hne0 : w.heap.size ≠ D := by omega
    have hne1 : w.heap.size + 1 ≠ D := by omega
    have hBl := hBW.trans hB
    have Hall := Lib.hid (And.intro hK (And.intro hr0 (And.intro hr1 hBl)))
    clear hno hk hBl hK hr0 hr1 hB
    gi_wp2
    obtain ⟨hK2, b0', b1', hBl⟩ := Hall.out
    refine ⟨by simp, .inl ⟨_, _, rfl, run_takeDeferred hK2, ?_⟩⟩
    have c0 := (Boxed.kept b0' (grownBy_putObj' _ D (.deferred none)) (fun e => hne0 (by cases e; rfl))).cell
    have c1 := (Boxed.kept b1' (grownBy_putObj' _ D (.deferred none)) (fun e => hne1 (by cases e; rfl))).cell
    exact ⟨.tuple #[.slice none 0 0, .bool false], by simp [results, Try.results9, go_sem, c0, c1], ⟨_, by rw [HZ.out.2], by rw [HZ.out.1]; exact OI.nil _ _, hBl.trans (belowK_b (w := w) (Nat.le_refl _) _ D _ _ (by omega) hK2 rfl rfl)⟩⟩
set_option maxHeartbeats 1000000 in
theorem implGt_any (v : Value) (zs : List Int) (n : Int) (w : World) (h : RI w v zs) :
    Calls Try.prog 9 #[v, .int .i64 n] w fun e w' => ∃ v', e = .returned (.tuple #[v', .bool (gtOk zs n)]) ∧ OI w.heap.size w' v' (gtZ zs n) ∧ Below w.heap.size w w' := by
  obtain ⟨ao, cap, rfl⟩ := h.shape
  have hlen := h.len
  by_cases hs : sgn n = true
  · by_cases hm : zs.length % 2 = 0
    · by_cases hl : zs.length ≤ 128
      · exact (callsIn_wide (n := 3)).1 (implGt_in zs ao cap n w h hs hm hl)
      · have hm3 : ((zs.length : Int).tmod 2 != 0) = false := by
          rw [Int.tmod_eq_emod_of_nonneg (by omega)]; simp; omega
        have hm4 : ((zs.length : Int) % 2 != 0) = false := by simp; omega
        have hgt : decide ((128 : Int) < (zs.length : Int)) = true := decide_eq_true (by omega)
        have hgt2 : (128 : Nat) < zs.length := by omega
        have HNo := Lib.hid (gt_none (zs := zs) (n := n) (by unfold gtO; rw [if_neg]; simp [gtOk0, hl]))
        clear hm
        go_enter Try.func9, Try.ntmps9
        go_wp2_with (go_at_call 24; refine (areSigns_any _ _).mono ?_; rw [hs]; rintro e w' ⟨rfl, rfl⟩)
        exact bodyPost_ret (v := .tuple #[.slice none 0 0, .bool false]) (by simp [results, Try.results9, go_sem]) rfl ⟨_, by rw [HNo.out.2], by rw [HNo.out.1]; exact OI.nil _ _, by go_grown⟩
    · have hm3 : ((zs.length : Int).tmod 2 != 0) = true := by
        rw [Int.tmod_eq_emod_of_nonneg (by omega)]; simp; omega
      have hm4 : ((zs.length : Int) % 2 != 0) = true := by simp; omega
      have HNo := Lib.hid (gt_none (zs := zs) (n := n) (by unfold gtO; rw [if_neg]; simp [gtOk0, hm]))
      clear hm
      go_enter Try.func9, Try.ntmps9
      go_wp2_with (go_at_call 24; refine (areSigns_any _ _).mono ?_; rw [hs]; rintro e w' ⟨rfl, rfl⟩)
      exact bodyPost_ret (v := .tuple #[.slice none 0 0, .bool false]) (by simp [results, Try.results9, go_sem]) rfl ⟨_, by rw [HNo.out.2], by rw [HNo.out.1]; exact OI.nil _ _, by go_grown⟩
  · have hs : sgn n = false := by simpa using hs
    have HNo := Lib.hid (gt_none (zs := zs) (n := n) (by unfold gtO; rw [if_neg]; simp [gtOk0, hs]))
    go_enter Try.func9, Try.ntmps9
    go_wp2_with (go_at_call 24; refine (areSigns_any _ _).mono ?_; rw [hs]; rintro e w' ⟨rfl, rfl⟩)
    exact bodyPost_ret (v := .tuple #[.slice none 0 0, .bool false]) (by simp [results, Try.results9, go_sem]) rfl ⟨_, by rw [HNo.out.2], by rw [HNo.out.1]; exact OI.nil _ _, by go_grown⟩
end Go.Proofs.Ytjeakgakpioieaa
