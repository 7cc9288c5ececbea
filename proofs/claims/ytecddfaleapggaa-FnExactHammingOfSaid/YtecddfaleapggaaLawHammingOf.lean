/- 'laws.FnExactHammingOf' returns true for all arguments: the program's function and the reference's return the same, and change no argument. No conditions. -/
import Derived.Test.YtecddfaleapggaaHamS
import Derived.Test.YtecddfaleapggaaState
import Derived.Test.YtecddfaleapggaaLaws
import Derived.Test.YtecddfaleapggaaFrame
import Derived.Deep.RegionHeld3
import Derived.Handy
import Derived.Test.YtecddfaleapggaaSt
namespace Go.Proofs.Ytecddfaleapggaa.fnExactHammingOf
open Go.ChangeShapes Go.WideShapes Go.ChangeAt Go.RowKit
set_option maxRecDepth 100000
set_option linter.unusedVariables false
set_option linter.unusedSimpArgs false

set_option maxRecDepth 100000 in
set_option maxHeartbeats 4000000 in
theorem walk (a0 : Int) (w : World) (_h0 : I64 a0) :
    Calls Try.prog 11 #[.int .i64 a0] w fun e w' => e = .returned (.bool true) ∧ Below w.heap.size w w' := by
  go_enter Try.func11, Try.ntmps11
  have s0 : St w w [] [] := St.refl w
  go_wp2_with fail
  refine (specHam_any a0 _ ).mono ?_; rintro e W1 ⟨g3, rfl, o4, b2⟩
  obtain ⟨ao5, cp6, rfl⟩ := o4.2.rg.shape
  have s1 := s0.push b2 o4.2
  have s2 := s1.box2 (.int .i64 (apN (hmOk a0) (hmN a0))) (Value.slice ao5 (apZ (hmOk a0) (hmZ a0)).length cp6) 27
  obtain ⟨kc0, kc1, -⟩ := s2.cs
  go_wp2_with fail
  refine (implHam_any a0 _ ).mono ?_; rintro e W7 ⟨g9, rfl, o10, b8⟩
  obtain ⟨ao11, cp12, rfl⟩ := o10.2.rg.shape
  clear kc0 kc1
  have s3 := s2.push b8 o10.2
  obtain ⟨kc0, kc1, -⟩ := s3.cs
  clear kc0 kc1
  have s4 := s3.box2 (.int .i64 (apN (hmOk a0) (hmN a0))) (Value.slice ao11 (apZ (hmOk a0) (hmZ a0)).length cp12) 27
  obtain ⟨kc0, kc1, kc2, kc3, -⟩ := s4.cs
  go_wp2_with fail
  refine (eqParity_same (apN (hmOk a0) (hmN a0)) _ _ (apZ (hmOk a0) (hmZ a0)) _ (s4.oi (OI.i64 o10) (List.mem_of_getElem? (i := 0) rfl)).ri (s4.oi (OI.i64 o4) (List.mem_of_getElem? (i := 1) rfl)).ri).mono ?_; rintro e W14 ⟨rfl, b13⟩
  clear kc0 kc1 kc2 kc3
  have s5 := s4.below b13
  obtain ⟨kc0, kc1, kc2, kc3, -⟩ := s5.cs
  go_wp2_with fail
  refine (markParity_any (apN (hmOk a0) (hmN a0)) _ (apZ (hmOk a0) (hmZ a0)) _ (1) _ (s5.oi (OI.i64 o10) (List.mem_of_getElem? (i := 0) rfl)) (hmZ_len a0) (by omega) (by omega)).mono ?_; rintro e W15 ⟨rfl, o16, r17⟩
  clear kc0 kc1 kc2 kc3
  have s6 : St w W15 [((⟨W7.heap.size, 0, none⟩ : Addr), Value.int .i64 (apN (hmOk a0) (hmN a0))), ((⟨W7.heap.size, 1, none⟩ : Addr), (Value.slice ao11 (apZ (hmOk a0) (hmZ a0)).length cp12)), ((⟨W1.heap.size, 0, none⟩ : Addr), Value.int .i64 (apN (hmOk a0) (hmN a0))), ((⟨W1.heap.size, 1, none⟩ : Addr), (Value.slice ao5 (apZ (hmOk a0) (hmZ a0)).length cp6))] [((Value.slice ao11 (apZ (hmOk a0) (hmZ a0)).length cp12), ((marks (1) (apZ (hmOk a0) (hmZ a0)).length)).map (Value.int .i64)), ((Value.slice ao5 (apZ (hmOk a0) (hmZ a0)).length cp6), (apZ (hmOk a0) (hmZ a0)).map (Value.int .i64))] := s5.mark 0 rfl r17 o16.2
  obtain ⟨kc0, kc1, kc2, kc3, -⟩ := s6.cs
  go_wp2_with fail
  refine (heldParity_same (apN (hmOk a0) (hmN a0)) _ (apZ (hmOk a0) (hmZ a0)).length 1 _ (s6.oi (OI.i64 o16) (List.mem_of_getElem? (i := 0) rfl)).ri (hmZ_len a0) (by decide) (by decide)).mono ?_; rintro e W18 ⟨rfl, b19⟩
  clear kc0 kc1 kc2 kc3
  have s7 := s6.below b19
  obtain ⟨kc0, kc1, kc2, kc3, -⟩ := s7.cs
  go_wp2_with fail
  refine (implHam_any a0 _ ).mono ?_; rintro e W20 ⟨g22, rfl, o23, b21⟩
  obtain ⟨ao24, cp25, rfl⟩ := o23.2.rg.shape
  clear kc0 kc1 kc2 kc3
  have s8 := s7.push b21 o23.2
  obtain ⟨kc0, kc1, kc2, kc3, -⟩ := s8.cs
  clear kc0 kc1 kc2 kc3
  have s9 := s8.box2 (.int .i64 (apN (hmOk a0) (hmN a0))) (Value.slice ao24 (apZ (hmOk a0) (hmZ a0)).length cp25) 27
  obtain ⟨kc0, kc1, kc2, kc3, kc4, kc5, -⟩ := s9.cs
  go_wp2_with fail
  refine (eqParity_same (apN (hmOk a0) (hmN a0)) _ _ (apZ (hmOk a0) (hmZ a0)) _ (s9.oi (OI.i64 o23) (List.mem_of_getElem? (i := 0) rfl)).ri (s9.oi (OI.i64 o4) (List.mem_of_getElem? (i := 2) rfl)).ri).mono ?_; rintro e W27 ⟨rfl, b26⟩
  clear kc0 kc1 kc2 kc3 kc4 kc5
  have s10 := s9.below b26
  obtain ⟨kc0, kc1, kc2, kc3, kc4, kc5, -⟩ := s10.cs
  go_wp2_with fail
  refine (heldParity_same (apN (hmOk a0) (hmN a0)) _ (apZ (hmOk a0) (hmZ a0)).length 1 _ (s10.oi (OI.i64 o16) (List.mem_of_getElem? (i := 1) rfl)).ri (hmZ_len a0) (by decide) (by decide)).mono ?_; rintro e W28 ⟨rfl, b29⟩
  clear kc0 kc1 kc2 kc3 kc4 kc5
  have s11 := s10.below b29
  obtain ⟨kc0, kc1, kc2, kc3, kc4, kc5, -⟩ := s11.cs
  go_wp2
  go_ret
  exact ⟨rfl, s11.bt⟩

set_option maxRecDepth 100000 in
theorem lifted (os : Os) (started : os.Started) (H : Type) (enc : TypeId × Value → H) :
    ReturnsInHanded {} Try.checked os 11 .any (Rows.fnExactHammingOfSpec.pre6 enc Try.prog Try.f11 Rows.fnExactHammingOfRow.domain false) (Rows.fnExactHammingOfSpec.post enc Try.prog Try.f11 false true false false) := by
  refine returnsInHanded_of_change (C := Try.checked) own started (by kernel_rfl) Try.func11
    (ChangeSpec.witness6 (enc := enc) (C := Try.checked) false ⟨#[], #[.int .i64 0], []⟩ 8 (by kernel_rfl) (by kernel_rfl) (by kernel_rfl) (by kernel_rfl)) ?_
  intro W base args ds gs before hval0 hW hcnd _
  have hval : ∀ (j : Nat) t v, Try.f11.params[j]? = some t → args[j]? = some v → Value.okWide Try.prog W .any base t v := hval0
  have hW' := hW
  obtain ⟨p, q, hA0, hV, rfl, hfz, hnd⟩ := hW
  have hA : DataW.TrodAll enc Try.prog W 0 (fun _ => true) true Try.f11.params.toList args.toList ds p := hA0
  rw [Try.params11] at hA hval
  obtain ⟨v0, vs0, d0, ds0, p0, q0, hargs, rfl, rfl, h0, r0⟩ := trodAll_cons hA
  obtain ⟨rfl, rfl, rfl⟩ := trodAll_nil r0
  obtain rfl : args = #[v0] := by cases args; simp_all
  obtain ⟨rfl, rfl⟩ := trodVars_none hV
  obtain ⟨a0, rfl, rfl, rfl, u0⟩ := open_int Try.underlying2 (hval 0 2 v0 rfl rfl) h0; have w0 := i64_of_wf u0
  clear hA0 hval0
  refine (walk a0 W w0).mono fun e W' ⟨he, bel⟩ => ?_
  subst he
  exact ⟨_, rfl, _, _, _, [], _, [], hW', trodAll_mk1 (shut_bool Try.underlying4 _), (trodAll_cons_mk (shut_int Try.underlying2 u0) trodAll_mk0), rfl, bel.frame _, fun h => by cases h⟩

theorem over : Rows.fnExactHammingOfRow.holds Try.pinned (OpenSpec.ofChange Rows.fnExactHammingOfSpec) :=
  OpenClaim.holds_of_wide 11 Try.f11 rfl rfl rfl rfl rfl rfl rfl ⟨rfl, rfl, rfl, rfl, rfl⟩ rfl rfl rfl rfl rfl (by kernel_rfl) Try.func11 (by kernel_rfl)
    (of_decide_eq_true (by kernel_rfl)) (by unfold Func.isWrapper; first | (rw [if_pos (by decide +kernel)]; kernel_rfl) | (rw [if_neg (by decide +kernel)]; exact ⟨rfl, rfl⟩))
    (fun os started H enc _ => lifted os started H enc)

theorem proved : Rows.FnExactHammingOfSaid := over
end Go.Proofs.Ytecddfaleapggaa.fnExactHammingOf
