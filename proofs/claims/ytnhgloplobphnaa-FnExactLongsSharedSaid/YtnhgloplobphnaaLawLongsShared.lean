/- 'laws.FnExactLongsShared' returns true for all arguments: the program's function and the reference's return the same, and change no argument. No conditions. -/
import Derived.Test.YtnhgloplobphnaaLong
import Derived.Test.YtnhgloplobphnaaGridV
import Derived.Deep.RegionHeld3
import Derived.Handy
namespace Go.Proofs.Ytnhgloplobphnaa.fnExactLongsShared
open Go.ChangeShapes Go.WideShapes Go.ChangeAt Go.RowKit
set_option maxRecDepth 100000
set_option linter.unusedVariables false
set_option linter.unusedSimpArgs false

set_option maxRecDepth 100000 in
set_option maxHeartbeats 4000000 in
theorem walk (a0 : Int) (v1 : Value) (z1 : List Row) (a2 : Int) (w : World) (_h0 : I64 a0) (h1 : SS w v1 z1) (_h2 : I64 a2) :
    Calls Try.prog 3 #[.int .i64 a0, v1, .int .i64 a2] w fun e w' => e = .returned (.bool true) ∧ Below w.heap.size w w' := by
  have hlen := h1.len
  by_cases hl0 : z1.length + totR z1 ≤ 1048576
  · have hsz := szSS_any v1 z1 1048576 w h1 (by omega) (by omega)
    rw [if_neg (by omega)] at hsz
    have hll : z1.length ≤ 1048576 := by omega
    have hlr : totR z1 ≤ 1048576 := by omega
    have Hsz := Lib.hid hsz
    clear hsz
    have hnn : ¬ (1048576 : Int) - z1.length - totR z1 < 0 := by omega
    go_enter Try.func3, Try.ntmps3
    go_wp2_with fail
    refine Hsz.out.mono ?_; rintro e _ ⟨rfl, rfl⟩
    go_wp2_with fail
    refine (toSS_any _ z1 _ h1 hll hlr).mono ?_; rintro e W1 ⟨t1, q1, rfl, e1, o1, b1⟩
    have E1 := Lib.hid e1
    clear e1
    go_wp2_with fail
    refine (specLg_any a0 _ q1 a2 _ o1.ss).mono ?_; rw [E1.out]; rintro e W2 ⟨g2, rfl, o2, b2⟩
    have B2 := bnext b1 b2
    go_wp2_with fail
    refine (toSS_any _ z1 _ (h1.below B2) hll hlr).mono ?_; rintro e W3 ⟨x3, q3, rfl, e3, o3, b3⟩
    have E3 := Lib.hid e3
    have T3 := Lib.hid (totR_snd e3)
    clear e3
    go_wp2_with fail
    refine (implLg_any a0 _ q3 a2 _ o3.ss).mono ?_; rw [E3.out]; rintro e W4 ⟨g4, rfl, o4, b4⟩
    have B4 := bnext B2 (bnext b3 b4)
    have r24 := o2.below (bnext b3 b4)
    have ap := Og.apart o2.2 o4.2 b3.size
    go_wp2_with fail
    refine (eq_same _ _ (lgZ a0 (z1.map Prod.snd) a2) _ o4.ri r24.ri).mono ?_; rintro e _ ⟨rfl, d4, rfl⟩
    have B4' := bnext B4 (below_drewN W4 d4)
    go_wp2_with fail
    refine (toSS_any _ z1 _ (h1.below B4') hll hlr).mono ?_; rintro e W5 ⟨t5, q5, rfl, e5, o5, b5⟩
    have E5 := Lib.hid e5
    clear e5
    have b45 := bnext (below_drewN W4 d4) b5
    have B5 := bnext B4 b45
    go_wp2_with fail
    refine (eqSS_same _ _ q3 q5 _ ((o3.below b4).below b45).ss o5.ss (E3.out.trans E5.out.symm)).mono ?_; rintro e _ ⟨rfl, d5, rfl⟩
    have b46 := bnext b45 (below_drewN W5 d5)
    have B5' := bnext B4 b46
    have o36 := (o3.below b4).below b46
    have o26 := r24.below b46
    have o46 := o4.below b46
    go_wp2_with fail
    refine (markSS_any _ q3 _ 1 _ o36 (by rw [T3.out]; omega) (by omega) (by omega)).mono ?_; rintro e W6 ⟨rfl, k6⟩
    have hk1 : ¬ (1 : Int) + totR q3 < 0 := by omega
    have hrow : ∀ k, (∃ p ∈ q3, p.1.ownBlock = some k) → W2.heap.size ≤ k ∧ k < W3.heap.size := fun k ⟨p, hp, e⟩ => (o3.2.1 p hp).2.blk k e
    have o27 := k6.oi o26 (fun k e hF => by have := (o2.2.blk k e).2; have := (hrow k hF).1; omega)
    have o47 := k6.oi o46 (fun k e hF => by have := (o4.2.blk k e).1; have := (hrow k hF).2; omega)
    have k6' : Kpt (fun k => W2.heap.size ≤ k) _ W6 := k6.mono (fun k _ hF => (hrow k hF).1)
    have Hrow := Lib.hid hrow
    clear hrow
    go_wp2_with fail
    refine (eq_same _ _ (lgZ a0 (z1.map Prod.snd) a2) _ o47.ri o27.ri).mono ?_; rintro e _ ⟨rfl, d6, rfl⟩
    have o48 := o47.below (below_drewN W6 d6)
    have o28 := o27.below (below_drewN W6 d6)
    go_wp2_with fail
    refine (mark_any _ (lgZ a0 (z1.map Prod.snd) a2) _ 1 _ o48 (lgZ_len _ _ _) (by omega) (by omega)).mono ?_; rintro e W7 ⟨rfl, o7, r7⟩
    have k7 := (k6'.drewN d6).grown r7 (fun k e => .inl (Nat.le_trans b3.size (o4.2.blk k e).1))
    have B7 : Below w.heap.size w W7 := k7.below B5' (fun k hk => Nat.le_trans B2.size hk) B5'.size
    have o29 := OI.other r7 ap o28
    go_wp2_with fail
    refine (held_same _ (lgZ a0 (z1.map Prod.snd) a2).length 1 _ o7.ri (lgZ_len _ _ _) (by omega) (by omega)).mono ?_; rintro e _ ⟨rfl, rfl⟩
    go_wp2_with fail
    refine (toSS_any _ z1 _ (h1.below B7) hll hlr).mono ?_; rintro e W8 ⟨t8, q8, rfl, e8, o8, b8⟩
    have E8 := Lib.hid e8
    clear e8
    go_wp2_with fail
    refine (implLg_any a0 _ q8 a2 _ o8.ss).mono ?_; rw [E8.out]; rintro e W9 ⟨g9, rfl, o9, b9⟩
    have b79 := bnext b8 b9
    have B9 := bnext B7 b79
    go_wp2_with fail
    refine (eq_same _ _ (lgZ a0 (z1.map Prod.snd) a2) _ o9.ri (o29.below b79).ri).mono ?_; rintro e _ ⟨rfl, d9, rfl⟩
    have B9' := bnext B9 (below_drewN W9 d9)
    go_wp2_with fail
    refine (held_same _ (lgZ a0 (z1.map Prod.snd) a2).length 1 _ ((o7.below b79).below (below_drewN W9 d9)).ri (lgZ_len _ _ _) (by omega) (by omega)).mono ?_; rintro e _ ⟨rfl, rfl⟩
    go_wp2
    go_ret
    exact ⟨rfl, B9'⟩
  · have hsz := szSS_any v1 z1 1048576 w h1 (by omega) (by omega)
    rw [if_pos (by omega)] at hsz
    have Hsz := Lib.hid hsz
    clear hsz
    go_enter Try.func3, Try.ntmps3
    go_wp2_with fail
    refine Hsz.out.mono ?_; rintro e _ ⟨rfl, rfl⟩
    go_wp2
    go_ret
    exact ⟨rfl, Below.refl _ _⟩

set_option maxRecDepth 100000 in
theorem lifted (os : Os) (started : os.Started) (H : Type) (enc : TypeId × Value → H) :
    ReturnsInHanded {} Try.checked os 3 .any (Rows.fnExactLongsSharedSpec.pre6 enc Try.prog Try.f3 Rows.fnExactLongsSharedRow.domain false) (Rows.fnExactLongsSharedSpec.post enc Try.prog Try.f3 false true false false) := by
  refine returnsInHanded_of_change (C := Try.checked) own started (by kernel_rfl) Try.func3
    (ChangeSpec.witness6 (enc := enc) (C := Try.checked) false ⟨#[], #[.int .i64 0, .slice none 0 0, .int .i64 0], []⟩ 8 (by kernel_rfl) (by kernel_rfl) (by kernel_rfl) (by kernel_rfl)) ?_
  intro W base args ds gs before hval0 hW hcnd _
  have hval : ∀ (j : Nat) t v, Try.f3.params[j]? = some t → args[j]? = some v → Value.okWide Try.prog W .any base t v := hval0
  have hW' := hW
  obtain ⟨p, q, hA0, hV, rfl, hfz, hnd⟩ := hW
  have hA : DataW.TrodAll enc Try.prog W 0 (fun _ => true) true Try.f3.params.toList args.toList ds p := hA0
  rw [Try.params3] at hA hval
  obtain ⟨v0, vs0, d0, ds0, p0, q0, hargs, rfl, rfl, h0, r0⟩ := trodAll_cons hA
  obtain ⟨v1, vs1, d1, ds1, p1, q1, rfl, rfl, rfl, h1, r1⟩ := trodAll_cons r0
  obtain ⟨v2, vs2, d2, ds2, p2, q2, rfl, rfl, rfl, h2, r2⟩ := trodAll_cons r1
  obtain ⟨rfl, rfl, rfl⟩ := trodAll_nil r2
  obtain rfl : args = #[v0, v1, v2] := by cases args; simp_all
  obtain ⟨rfl, rfl⟩ := trodVars_none hV
  obtain ⟨a0, rfl, rfl, rfl, u0⟩ := open_int Try.underlying2 (hval 0 2 v0 rfl rfl) h0; have w0 := i64_of_wf u0
  have k1 := h1
  have lt1 : ∀ x ∈ p1, x.block < W.heap.size := by obtain ⟨m, hm⟩ := k1; exact DataW.trod_lt m _ _ _ hm
  obtain ⟨z1, w1⟩ := view_SS (hval 1 22 v1 rfl rfl) h1
  obtain ⟨a2, rfl, rfl, rfl, u2⟩ := open_int Try.underlying2 (hval 2 2 v2 rfl rfl) h2; have w2 := i64_of_wf u2
  clear hA0 hval0
  refine (walk a0 v1 z1 a2 W w0 w1 w2).mono fun e W' ⟨he, bel⟩ => ?_
  subst he
  exact ⟨_, rfl, _, _, _, [], _, [], hW', trodAll_mk1 (shut_bool Try.underlying4 _), (trodAll_cons_mk (shut_int Try.underlying2 u0) (trodAll_cons_mk (Below.trod laidOut (by kernel_rfl) (of_decide_eq_true (by kernel_rfl)) k1 bel lt1) (trodAll_cons_mk (shut_int Try.underlying2 u2) trodAll_mk0))), rfl, bel.frame _, fun h => by cases h⟩

theorem over : Rows.fnExactLongsSharedRow.holds Try.pinned (OpenSpec.ofChange Rows.fnExactLongsSharedSpec) :=
  OpenClaim.holds_of_wide 3 Try.f3 rfl rfl rfl rfl rfl rfl rfl ⟨rfl, rfl, rfl, rfl, rfl⟩ rfl rfl rfl rfl rfl (by kernel_rfl) Try.func3 (by kernel_rfl)
    (of_decide_eq_true (by kernel_rfl)) (by unfold Func.isWrapper; first | (rw [if_pos (by decide +kernel)]; kernel_rfl) | (rw [if_neg (by decide +kernel)]; exact ⟨rfl, rfl⟩))
    (fun os started H enc _ => lifted os started H enc)

theorem proved : Rows.FnExactLongsSharedSaid := over
end Go.Proofs.Ytnhgloplobphnaa.fnExactLongsShared
