/- 'laws.FnExactCountsOf' returns true for all arguments: the program's function and the reference's return the same, and change no argument. No conditions. -/
import Derived.Test.YtgkgfpljblnpnaaCountsOf
import Derived.Test.YtgkgfpljblnpnaaState
import Derived.Test.YtgkgfpljblnpnaaLaws
import Derived.Test.YtgkgfpljblnpnaaFrame
import Derived.Deep.RegionHeld3
import Derived.Handy
import Derived.Test.YtgkgfpljblnpnaaSt
namespace Go.Proofs.Ytgkgfpljblnpnaa.fnExactCountsOf
open Go.ChangeShapes Go.WideShapes Go.ChangeAt Go.RowKit
set_option maxRecDepth 100000
set_option linter.unusedVariables false
set_option linter.unusedSimpArgs false

set_option maxRecDepth 100000 in
set_option maxHeartbeats 4000000 in
theorem walk (v0 : Value) (z0 : List Int) (a1 : Int) (w : World) (h0 : RI w v0 z0) (_h1 : I64 a1) :
    Calls Try.prog 12 #[v0, .int .i64 a1] w fun e w' => e = .returned (.bool true) ∧ Below w.heap.size w w' := by
  obtain ⟨ao0, cap0, rfl⟩ := h0.shape
  have hlen0 := h0.len
  by_cases hl0 : z0.length ≤ 1048576
  · go_enter Try.func12, Try.ntmps12
    have s0 : St w w [] [] := St.refl w
    go_wp2_with fail
    refine (to_any _ z0 _ (h0.below s0.bt) (by omega)).mono ?_; rintro e W1 ⟨t2, rfl, o3, b4⟩
    have s1 := s0.push b4 o3.2
    go_wp2_with fail
    refine (specCountsOf_any _ z0 a1 _ (s1.oi (OI.i64 o3) (List.mem_of_getElem? (i := 0) rfl)).ri).mono ?_; rintro e W5 ⟨g7, rfl, o8, b6⟩
    obtain ⟨ao9, cp10, rfl⟩ := o8.2.rg.shape
    have s2 := s1.push b6 o8.2
    have s3 := s2.box2 (.int .i64 (coN z0 a1)) (Value.slice ao9 (coZ z0 a1).length cp10) 34
    obtain ⟨kc0, kc1, -⟩ := s3.cs
    go_wp2_with fail
    refine (to_any _ z0 _ (h0.below s3.bt) (by omega)).mono ?_; rintro e W11 ⟨t12, rfl, o13, b14⟩
    clear kc0 kc1
    have s4 := s3.push b14 o13.2
    obtain ⟨kc0, kc1, -⟩ := s4.cs
    go_wp2_with fail
    refine (implCountsOf_any _ z0 a1 _ (s4.oi (OI.i64 o13) (List.mem_of_getElem? (i := 0) rfl)).ri).mono ?_; rintro e W15 ⟨g17, rfl, o18, b16⟩
    obtain ⟨ao19, cp20, rfl⟩ := o18.2.rg.shape
    clear kc0 kc1
    have s5 := s4.push b16 o18.2
    obtain ⟨kc0, kc1, -⟩ := s5.cs
    clear kc0 kc1
    have s6 := s5.box2 (.int .i64 (coN z0 a1)) (Value.slice ao19 (coZ z0 a1).length cp20) 34
    obtain ⟨kc0, kc1, kc2, kc3, -⟩ := s6.cs
    go_wp2_with fail
    refine (eqCounts_same (coN z0 a1) _ _ (coZ z0 a1) _ (s6.oi (OI.i64 o18) (List.mem_of_getElem? (i := 0) rfl)).ri (s6.oi (OI.i64 o8) (List.mem_of_getElem? (i := 2) rfl)).ri).mono ?_; rintro e W22 ⟨rfl, b21⟩
    clear kc0 kc1 kc2 kc3
    have s7 := s6.below b21
    obtain ⟨kc0, kc1, kc2, kc3, -⟩ := s7.cs
    go_wp2_with fail
    refine (to_any _ z0 _ (h0.below s7.bt) (by omega)).mono ?_; rintro e W23 ⟨t24, rfl, o25, b26⟩
    clear kc0 kc1 kc2 kc3
    have s8 := s7.push b26 o25.2
    obtain ⟨kc0, kc1, kc2, kc3, -⟩ := s8.cs
    go_wp2_with fail
    refine (eq_same _ _ (z0) _ (s8.oi (OI.i64 o13) (List.mem_of_getElem? (i := 2) rfl)).ri (s8.oi (OI.i64 o25) (List.mem_of_getElem? (i := 0) rfl)).ri).mono ?_; rintro e _ ⟨rfl, d28, rfl⟩
    clear kc0 kc1 kc2 kc3
    have s9 := s8.drewN d28
    obtain ⟨kc0, kc1, kc2, kc3, -⟩ := s9.cs
    go_wp2_with fail
    refine (mark_any _ (z0) _ (1) _ (s9.oi (OI.i64 o13) (List.mem_of_getElem? (i := 2) rfl)) (by omega) (by omega) (by omega)).mono ?_; rintro e W29 ⟨rfl, o30, r31⟩
    clear kc0 kc1 kc2 kc3
    have s10 : St w W29 [((⟨W15.heap.size, 0, none⟩ : Addr), Value.int .i64 (coN z0 a1)), ((⟨W15.heap.size, 1, none⟩ : Addr), (Value.slice ao19 (coZ z0 a1).length cp20)), ((⟨W5.heap.size, 0, none⟩ : Addr), Value.int .i64 (coN z0 a1)), ((⟨W5.heap.size, 1, none⟩ : Addr), (Value.slice ao9 (coZ z0 a1).length cp10))] [(t24, (z0).map (Value.int .i64)), ((Value.slice ao19 (coZ z0 a1).length cp20), (coZ z0 a1).map (Value.int .i64)), (t12, ((marks (1) (z0).length)).map (Value.int .i64)), ((Value.slice ao9 (coZ z0 a1).length cp10), (coZ z0 a1).map (Value.int .i64)), (t2, (z0).map (Value.int .i64))] := s9.mark 2 rfl r31 o30.2
    obtain ⟨kc0, kc1, kc2, kc3, -⟩ := s10.cs
    go_wp2_with fail
    refine (eqCounts_same (coN z0 a1) _ _ (coZ z0 a1) _ (s10.oi (OI.i64 o18) (List.mem_of_getElem? (i := 1) rfl)).ri (s10.oi (OI.i64 o8) (List.mem_of_getElem? (i := 3) rfl)).ri).mono ?_; rintro e W33 ⟨rfl, b32⟩
    clear kc0 kc1 kc2 kc3
    have s11 := s10.below b32
    obtain ⟨kc0, kc1, kc2, kc3, -⟩ := s11.cs
    go_wp2_with fail
    refine (markCounts_any (coN z0 a1) _ (coZ z0 a1) _ (1) _ (s11.oi (OI.i64 o18) (List.mem_of_getElem? (i := 1) rfl)) (coZ_len z0 a1) (by omega) (by omega)).mono ?_; rintro e W34 ⟨rfl, o35, r36⟩
    clear kc0 kc1 kc2 kc3
    have s12 : St w W34 [((⟨W15.heap.size, 0, none⟩ : Addr), Value.int .i64 (coN z0 a1)), ((⟨W15.heap.size, 1, none⟩ : Addr), (Value.slice ao19 (coZ z0 a1).length cp20)), ((⟨W5.heap.size, 0, none⟩ : Addr), Value.int .i64 (coN z0 a1)), ((⟨W5.heap.size, 1, none⟩ : Addr), (Value.slice ao9 (coZ z0 a1).length cp10))] [(t24, (z0).map (Value.int .i64)), ((Value.slice ao19 (coZ z0 a1).length cp20), ((marks (1) (coZ z0 a1).length)).map (Value.int .i64)), (t12, ((marks (1) (z0).length)).map (Value.int .i64)), ((Value.slice ao9 (coZ z0 a1).length cp10), (coZ z0 a1).map (Value.int .i64)), (t2, (z0).map (Value.int .i64))] := s11.mark 1 rfl r36 o35.2
    obtain ⟨kc0, kc1, kc2, kc3, -⟩ := s12.cs
    go_wp2_with fail
    refine (heldCounts_same (coN z0 a1) _ (coZ z0 a1).length 1 _ (s12.oi (OI.i64 o35) (List.mem_of_getElem? (i := 1) rfl)).ri (coZ_len z0 a1) (by decide) (by decide)).mono ?_; rintro e W37 ⟨rfl, b38⟩
    clear kc0 kc1 kc2 kc3
    have s13 := s12.below b38
    obtain ⟨kc0, kc1, kc2, kc3, -⟩ := s13.cs
    go_wp2_with fail
    refine (to_any _ z0 _ (h0.below s13.bt) (by omega)).mono ?_; rintro e W39 ⟨t40, rfl, o41, b42⟩
    clear kc0 kc1 kc2 kc3
    have s14 := s13.push b42 o41.2
    obtain ⟨kc0, kc1, kc2, kc3, -⟩ := s14.cs
    go_wp2_with fail
    refine (implCountsOf_any _ z0 a1 _ (s14.oi (OI.i64 o41) (List.mem_of_getElem? (i := 0) rfl)).ri).mono ?_; rintro e W43 ⟨g45, rfl, o46, b44⟩
    obtain ⟨ao47, cp48, rfl⟩ := o46.2.rg.shape
    clear kc0 kc1 kc2 kc3
    have s15 := s14.push b44 o46.2
    obtain ⟨kc0, kc1, kc2, kc3, -⟩ := s15.cs
    clear kc0 kc1 kc2 kc3
    have s16 := s15.box2 (.int .i64 (coN z0 a1)) (Value.slice ao47 (coZ z0 a1).length cp48) 34
    obtain ⟨kc0, kc1, kc2, kc3, kc4, kc5, -⟩ := s16.cs
    go_wp2_with fail
    refine (eqCounts_same (coN z0 a1) _ _ (coZ z0 a1) _ (s16.oi (OI.i64 o46) (List.mem_of_getElem? (i := 0) rfl)).ri (s16.oi (OI.i64 o8) (List.mem_of_getElem? (i := 5) rfl)).ri).mono ?_; rintro e W50 ⟨rfl, b49⟩
    clear kc0 kc1 kc2 kc3 kc4 kc5
    have s17 := s16.below b49
    obtain ⟨kc0, kc1, kc2, kc3, kc4, kc5, -⟩ := s17.cs
    go_wp2_with fail
    refine (heldCounts_same (coN z0 a1) _ (coZ z0 a1).length 1 _ (s17.oi (OI.i64 o35) (List.mem_of_getElem? (i := 3) rfl)).ri (coZ_len z0 a1) (by decide) (by decide)).mono ?_; rintro e W51 ⟨rfl, b52⟩
    clear kc0 kc1 kc2 kc3 kc4 kc5
    have s18 := s17.below b52
    obtain ⟨kc0, kc1, kc2, kc3, kc4, kc5, -⟩ := s18.cs
    go_wp2
    go_ret
    exact ⟨rfl, s18.bt⟩
  · go_enter Try.func12, Try.ntmps12
    go_wp2
    go_ret
    exact ⟨rfl, Below.refl _ _⟩

set_option maxRecDepth 100000 in
theorem lifted (os : Os) (started : os.Started) (H : Type) (enc : TypeId × Value → H) :
    ReturnsInHanded {} Try.checked os 12 .any (Rows.fnExactCountsOfSpec.pre6 enc Try.prog Try.f12 Rows.fnExactCountsOfRow.domain false) (Rows.fnExactCountsOfSpec.post enc Try.prog Try.f12 false true false false) := by
  refine returnsInHanded_of_change (C := Try.checked) own started (by kernel_rfl) Try.func12
    (ChangeSpec.witness6 (enc := enc) (C := Try.checked) false ⟨#[], #[.slice none 0 0, .int .i64 0], []⟩ 8 (by kernel_rfl) (by kernel_rfl) (by kernel_rfl) (by kernel_rfl)) ?_
  intro W base args ds gs before hval0 hW hcnd _
  have hval : ∀ (j : Nat) t v, Try.f12.params[j]? = some t → args[j]? = some v → Value.okWide Try.prog W .any base t v := hval0
  have hW' := hW
  obtain ⟨p, q, hA0, hV, rfl, hfz, hnd⟩ := hW
  have hA : DataW.TrodAll enc Try.prog W 0 (fun _ => true) true Try.f12.params.toList args.toList ds p := hA0
  rw [Try.params12] at hA hval
  obtain ⟨v0, vs0, d0, ds0, p0, q0, hargs, rfl, rfl, h0, r0⟩ := trodAll_cons hA
  obtain ⟨v1, vs1, d1, ds1, p1, q1, rfl, rfl, rfl, h1, r1⟩ := trodAll_cons r0
  obtain ⟨rfl, rfl, rfl⟩ := trodAll_nil r1
  obtain rfl : args = #[v0, v1] := by cases args; simp_all
  obtain ⟨rfl, rfl⟩ := trodVars_none hV
  have k0 := h0
  have lt0 : ∀ x ∈ p0, x.block < W.heap.size := by obtain ⟨m, hm⟩ := k0; exact DataW.trod_lt m _ _ _ hm
  obtain ⟨z0, w0⟩ := view_ints (hval 0 22 v0 rfl rfl) h0
  obtain ⟨a1, rfl, rfl, rfl, u1⟩ := open_int Try.underlying2 (hval 1 2 v1 rfl rfl) h1; have w1 := i64_of_wf u1
  clear hA0 hval0
  refine (walk v0 z0 a1 W w0 w1).mono fun e W' ⟨he, bel⟩ => ?_
  subst he
  exact ⟨_, rfl, _, _, _, [], _, [], hW', trodAll_mk1 (shut_bool Try.underlying4 _), (trodAll_cons_mk (Below.trod laidOut (by kernel_rfl) (of_decide_eq_true (by kernel_rfl)) k0 bel lt0) (trodAll_cons_mk (shut_int Try.underlying2 u1) trodAll_mk0)), rfl, bel.frame _, fun h => by cases h⟩

theorem over : Rows.fnExactCountsOfRow.holds Try.pinned (OpenSpec.ofChange Rows.fnExactCountsOfSpec) :=
  OpenClaim.holds_of_wide 12 Try.f12 rfl rfl rfl rfl rfl rfl rfl ⟨rfl, rfl, rfl, rfl, rfl⟩ rfl rfl rfl rfl rfl (by kernel_rfl) Try.func12 (by kernel_rfl)
    (of_decide_eq_true (by kernel_rfl)) (by unfold Func.isWrapper; first | (rw [if_pos (by decide +kernel)]; kernel_rfl) | (rw [if_neg (by decide +kernel)]; exact ⟨rfl, rfl⟩))
    (fun os started H enc _ => lifted os started H enc)

theorem proved : Rows.FnExactCountsOfSaid := over
end Go.Proofs.Ytgkgfpljblnpnaa.fnExactCountsOf
