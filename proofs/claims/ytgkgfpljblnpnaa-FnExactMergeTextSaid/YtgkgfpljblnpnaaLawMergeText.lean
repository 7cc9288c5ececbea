/- 'laws.FnExactMergeText' returns true for all arguments: the program's function and the reference's return the same, and change no argument. No conditions. -/
import Derived.Test.YtgkgfpljblnpnaaMeS
import Derived.Test.YtgkgfpljblnpnaaSt2
import Derived.Test.YtgkgfpljblnpnaaState
import Derived.Test.YtgkgfpljblnpnaaLaws
import Derived.Test.YtgkgfpljblnpnaaFrame
import Derived.Deep.RegionHeld3
import Derived.Handy
namespace Go.Proofs.Ytgkgfpljblnpnaa.fnExactMergeText
open Go.ChangeShapes Go.WideShapes Go.ChangeAt Go.RowKit
set_option maxRecDepth 100000
set_option linter.unusedVariables false
set_option linter.unusedSimpArgs false

set_option maxRecDepth 100000 in
set_option maxHeartbeats 4000000 in
theorem walk (v0 : Value) (z0 : List Int) (a1 : Int) (a2 : Int) (w : World) (h0 : RI w v0 z0) (_h1 : I64 a1) (_h2 : I64 a2) :
    Calls Try.prog 11 #[v0, .int .i64 a1, .int .i64 a2] w fun e w' => e = .returned (.bool true) ∧ Below w.heap.size w w' := by
  obtain ⟨ao0, cap0, rfl⟩ := h0.shape
  have hlen0 := h0.len
  by_cases hl0 : z0.length ≤ 1048576
  · have hlen_g0 := (meZ_len z0 a1 a2)
    have hlen_g1 := (Nat.le_trans (meR_len z0 a1 a2) (show 16 ≤ 16777216 by decide))
    go_enter Try.func11, Try.ntmps11
    have s0 : St w w [] [] := St.refl w
    go_wp2_with fail
    refine (to_any _ z0 _ (h0.below s0.bt) (by omega)).mono ?_; rintro e W1 ⟨t2, rfl, o3, b4⟩
    have s1 := s0.push b4 o3.2
    go_wp2_with fail
    refine (specMe_any _ z0 a1 a2 _ (s1.oi (OI.i64 o3) (List.mem_of_getElem? (i := 0) rfl)).ri).mono ?_; rintro e W5 ⟨g7, g9, rfl, o8, o10, apb6, b6⟩
    have s2 := s1.push2 b6 o8.2 o10.2 apb6
    go_wp2_with fail
    refine (to_any _ z0 _ (h0.below s2.bt) (by omega)).mono ?_; rintro e W11 ⟨t12, rfl, o13, b14⟩
    have s3 := s2.push b14 o13.2
    go_wp2_with fail
    refine (implMe_any _ z0 a1 a2 _ (s3.oi (OI.i64 o13) (List.mem_of_getElem? (i := 0) rfl)).ri).mono ?_; rintro e W15 ⟨g17, g19, rfl, o18, o20, apb16, b16⟩
    have s4 := s3.push2 b16 o18.2 o20.2 apb16
    go_wp2_with fail
    refine (eq_same _ _ (meZ z0 a1 a2) _ (s4.oi (OI.i64 o18) (List.mem_of_getElem? (i := 1) rfl)).ri (s4.oi (OI.i64 o8) (List.mem_of_getElem? (i := 4) rfl)).ri).mono ?_; rintro e W23 ⟨rfl, d22, hdd22⟩
    have s5 : St w W23 [] [(g19, (meR z0 a1 a2).map (Value.int .i64)), (g17, (meZ z0 a1 a2).map (Value.int .i64)), (t12, (z0).map (Value.int .i64)), (g9, (meR z0 a1 a2).map (Value.int .i64)), (g7, (meZ z0 a1 a2).map (Value.int .i64)), (t2, (z0).map (Value.int .i64))] := by rw [hdd22]; exact s4.drewN d22
    clear hdd22
    go_wp2_with fail
    refine (eq_same _ _ (meR z0 a1 a2) _ (s5.oi (OI.i64 o20) (List.mem_of_getElem? (i := 0) rfl)).ri (s5.oi (OI.i64 o10) (List.mem_of_getElem? (i := 3) rfl)).ri).mono ?_; rintro e W26 ⟨rfl, d25, hdd25⟩
    have s6 : St w W26 [] [(g19, (meR z0 a1 a2).map (Value.int .i64)), (g17, (meZ z0 a1 a2).map (Value.int .i64)), (t12, (z0).map (Value.int .i64)), (g9, (meR z0 a1 a2).map (Value.int .i64)), (g7, (meZ z0 a1 a2).map (Value.int .i64)), (t2, (z0).map (Value.int .i64))] := by rw [hdd25]; exact s5.drewN d25
    clear hdd25
    go_wp2_with fail
    refine (to_any _ z0 _ (h0.below s6.bt) (by omega)).mono ?_; rintro e W27 ⟨t28, rfl, o29, b30⟩
    have s7 := s6.push b30 o29.2
    go_wp2_with fail
    refine (eq_same _ _ (z0) _ (s7.oi (OI.i64 o13) (List.mem_of_getElem? (i := 3) rfl)).ri (s7.oi (OI.i64 o29) (List.mem_of_getElem? (i := 0) rfl)).ri).mono ?_; rintro e W33 ⟨rfl, d32, hdd32⟩
    have s8 : St w W33 [] [(t28, (z0).map (Value.int .i64)), (g19, (meR z0 a1 a2).map (Value.int .i64)), (g17, (meZ z0 a1 a2).map (Value.int .i64)), (t12, (z0).map (Value.int .i64)), (g9, (meR z0 a1 a2).map (Value.int .i64)), (g7, (meZ z0 a1 a2).map (Value.int .i64)), (t2, (z0).map (Value.int .i64))] := by rw [hdd32]; exact s7.drewN d32
    clear hdd32
    go_wp2_with fail
    refine (mark_any _ (z0) _ (1) _ (s8.oi (OI.i64 o13) (List.mem_of_getElem? (i := 3) rfl)) (by omega) (by omega) (by omega)).mono ?_; rintro e W34 ⟨rfl, o35, r36⟩
    have s9 : St w W34 [] [(t28, (z0).map (Value.int .i64)), (g19, (meR z0 a1 a2).map (Value.int .i64)), (g17, (meZ z0 a1 a2).map (Value.int .i64)), (t12, ((marks (1) (z0).length)).map (Value.int .i64)), (g9, (meR z0 a1 a2).map (Value.int .i64)), (g7, (meZ z0 a1 a2).map (Value.int .i64)), (t2, (z0).map (Value.int .i64))] := s8.mark 3 rfl r36 o35.2
    go_wp2_with fail
    refine (eq_same _ _ (meZ z0 a1 a2) _ (s9.oi (OI.i64 o18) (List.mem_of_getElem? (i := 2) rfl)).ri (s9.oi (OI.i64 o8) (List.mem_of_getElem? (i := 5) rfl)).ri).mono ?_; rintro e W39 ⟨rfl, d38, hdd38⟩
    have s10 : St w W39 [] [(t28, (z0).map (Value.int .i64)), (g19, (meR z0 a1 a2).map (Value.int .i64)), (g17, (meZ z0 a1 a2).map (Value.int .i64)), (t12, ((marks (1) (z0).length)).map (Value.int .i64)), (g9, (meR z0 a1 a2).map (Value.int .i64)), (g7, (meZ z0 a1 a2).map (Value.int .i64)), (t2, (z0).map (Value.int .i64))] := by rw [hdd38]; exact s9.drewN d38
    clear hdd38
    go_wp2_with fail
    refine (eq_same _ _ (meR z0 a1 a2) _ (s10.oi (OI.i64 o20) (List.mem_of_getElem? (i := 1) rfl)).ri (s10.oi (OI.i64 o10) (List.mem_of_getElem? (i := 4) rfl)).ri).mono ?_; rintro e W42 ⟨rfl, d41, hdd41⟩
    have s11 : St w W42 [] [(t28, (z0).map (Value.int .i64)), (g19, (meR z0 a1 a2).map (Value.int .i64)), (g17, (meZ z0 a1 a2).map (Value.int .i64)), (t12, ((marks (1) (z0).length)).map (Value.int .i64)), (g9, (meR z0 a1 a2).map (Value.int .i64)), (g7, (meZ z0 a1 a2).map (Value.int .i64)), (t2, (z0).map (Value.int .i64))] := by rw [hdd41]; exact s10.drewN d41
    clear hdd41
    go_wp2_with fail
    refine (mark_any _ (meZ z0 a1 a2) _ (1) _ (s11.oi (OI.i64 o18) (List.mem_of_getElem? (i := 2) rfl)) (meZ_len z0 a1 a2) (by omega) (by omega)).mono ?_; rintro e W43 ⟨rfl, o44, r45⟩
    have s12 : St w W43 [] [(t28, (z0).map (Value.int .i64)), (g19, (meR z0 a1 a2).map (Value.int .i64)), (g17, ((marks (1) (meZ z0 a1 a2).length)).map (Value.int .i64)), (t12, ((marks (1) (z0).length)).map (Value.int .i64)), (g9, (meR z0 a1 a2).map (Value.int .i64)), (g7, (meZ z0 a1 a2).map (Value.int .i64)), (t2, (z0).map (Value.int .i64))] := s11.mark 2 rfl r45 o44.2
    go_wp2_with fail
    refine (mark_any _ (meR z0 a1 a2) _ (1 + ((meZ z0 a1 a2).length : Int)) _ (s12.oi (OI.i64 o20) (List.mem_of_getElem? (i := 1) rfl)) (Nat.le_trans (meR_len z0 a1 a2) (show 16 ≤ 16777216 by decide)) (by omega) (by omega)).mono ?_; rintro e W46 ⟨rfl, o47, r48⟩
    have s13 : St w W46 [] [(t28, (z0).map (Value.int .i64)), (g19, ((marks (1 + ((meZ z0 a1 a2).length : Int)) (meR z0 a1 a2).length)).map (Value.int .i64)), (g17, ((marks (1) (meZ z0 a1 a2).length)).map (Value.int .i64)), (t12, ((marks (1) (z0).length)).map (Value.int .i64)), (g9, (meR z0 a1 a2).map (Value.int .i64)), (g7, (meZ z0 a1 a2).map (Value.int .i64)), (t2, (z0).map (Value.int .i64))] := s12.mark 1 rfl r48 o47.2
    go_wp2_with fail
    refine (held_same _ (meZ z0 a1 a2).length (1) _ (s13.oi (OI.i64 o44) (List.mem_of_getElem? (i := 2) rfl)).ri (meZ_len z0 a1 a2) (by omega) (by omega)).mono ?_; rintro e _ ⟨rfl, rfl⟩
    go_wp2_with fail
    refine (held_same _ (meR z0 a1 a2).length (1 + ((meZ z0 a1 a2).length : Int)) _ (s13.oi (OI.i64 o47) (List.mem_of_getElem? (i := 1) rfl)).ri (Nat.le_trans (meR_len z0 a1 a2) (show 16 ≤ 16777216 by decide)) (by omega) (by omega)).mono ?_; rintro e _ ⟨rfl, rfl⟩
    go_wp2_with fail
    refine (to_any _ z0 _ (h0.below s13.bt) (by omega)).mono ?_; rintro e W53 ⟨t54, rfl, o55, b56⟩
    have s14 := s13.push b56 o55.2
    go_wp2_with fail
    refine (implMe_any _ z0 a1 a2 _ (s14.oi (OI.i64 o55) (List.mem_of_getElem? (i := 0) rfl)).ri).mono ?_; rintro e W57 ⟨g59, g61, rfl, o60, o62, apb58, b58⟩
    have s15 := s14.push2 b58 o60.2 o62.2 apb58
    go_wp2_with fail
    refine (eq_same _ _ (meZ z0 a1 a2) _ (s15.oi (OI.i64 o60) (List.mem_of_getElem? (i := 1) rfl)).ri (s15.oi (OI.i64 o8) (List.mem_of_getElem? (i := 8) rfl)).ri).mono ?_; rintro e W65 ⟨rfl, d64, hdd64⟩
    have s16 : St w W65 [] [(g61, (meR z0 a1 a2).map (Value.int .i64)), (g59, (meZ z0 a1 a2).map (Value.int .i64)), (t54, (z0).map (Value.int .i64)), (t28, (z0).map (Value.int .i64)), (g19, ((marks (1 + ((meZ z0 a1 a2).length : Int)) (meR z0 a1 a2).length)).map (Value.int .i64)), (g17, ((marks (1) (meZ z0 a1 a2).length)).map (Value.int .i64)), (t12, ((marks (1) (z0).length)).map (Value.int .i64)), (g9, (meR z0 a1 a2).map (Value.int .i64)), (g7, (meZ z0 a1 a2).map (Value.int .i64)), (t2, (z0).map (Value.int .i64))] := by rw [hdd64]; exact s15.drewN d64
    clear hdd64
    go_wp2_with fail
    refine (eq_same _ _ (meR z0 a1 a2) _ (s16.oi (OI.i64 o62) (List.mem_of_getElem? (i := 0) rfl)).ri (s16.oi (OI.i64 o10) (List.mem_of_getElem? (i := 7) rfl)).ri).mono ?_; rintro e W68 ⟨rfl, d67, hdd67⟩
    have s17 : St w W68 [] [(g61, (meR z0 a1 a2).map (Value.int .i64)), (g59, (meZ z0 a1 a2).map (Value.int .i64)), (t54, (z0).map (Value.int .i64)), (t28, (z0).map (Value.int .i64)), (g19, ((marks (1 + ((meZ z0 a1 a2).length : Int)) (meR z0 a1 a2).length)).map (Value.int .i64)), (g17, ((marks (1) (meZ z0 a1 a2).length)).map (Value.int .i64)), (t12, ((marks (1) (z0).length)).map (Value.int .i64)), (g9, (meR z0 a1 a2).map (Value.int .i64)), (g7, (meZ z0 a1 a2).map (Value.int .i64)), (t2, (z0).map (Value.int .i64))] := by rw [hdd67]; exact s16.drewN d67
    clear hdd67
    go_wp2_with fail
    refine (held_same _ (meZ z0 a1 a2).length (1) _ (s17.oi (OI.i64 o44) (List.mem_of_getElem? (i := 5) rfl)).ri (meZ_len z0 a1 a2) (by omega) (by omega)).mono ?_; rintro e _ ⟨rfl, rfl⟩
    go_wp2_with fail
    refine (held_same _ (meR z0 a1 a2).length (1 + ((meZ z0 a1 a2).length : Int)) _ (s17.oi (OI.i64 o47) (List.mem_of_getElem? (i := 4) rfl)).ri (Nat.le_trans (meR_len z0 a1 a2) (show 16 ≤ 16777216 by decide)) (by omega) (by omega)).mono ?_; rintro e _ ⟨rfl, rfl⟩
    go_wp2
    go_ret
    exact ⟨rfl, s17.bt⟩
  · go_enter Try.func11, Try.ntmps11
    go_wp2
    go_ret
    exact ⟨rfl, Below.refl _ _⟩

set_option maxRecDepth 100000 in
theorem lifted (os : Os) (started : os.Started) (H : Type) (enc : TypeId × Value → H) :
    ReturnsInHanded {} Try.checked os 11 .any (Rows.fnExactMergeTextSpec.pre6 enc Try.prog Try.f11 Rows.fnExactMergeTextRow.domain false) (Rows.fnExactMergeTextSpec.post enc Try.prog Try.f11 false true false false) := by
  refine returnsInHanded_of_change (C := Try.checked) own started (by kernel_rfl) Try.func11
    (ChangeSpec.witness6 (enc := enc) (C := Try.checked) false ⟨#[], #[.slice none 0 0, .int .i64 0, .int .i64 0], []⟩ 8 (by kernel_rfl) (by kernel_rfl) (by kernel_rfl) (by kernel_rfl)) ?_
  intro W base args ds gs before hval0 hW hcnd _
  have hval : ∀ (j : Nat) t v, Try.f11.params[j]? = some t → args[j]? = some v → Value.okWide Try.prog W .any base t v := hval0
  have hW' := hW
  obtain ⟨p, q, hA0, hV, rfl, hfz, hnd⟩ := hW
  have hA : DataW.TrodAll enc Try.prog W 0 (fun _ => true) true Try.f11.params.toList args.toList ds p := hA0
  rw [Try.params11] at hA hval
  obtain ⟨v0, vs0, d0, ds0, p0, q0, hargs, rfl, rfl, h0, r0⟩ := trodAll_cons hA
  obtain ⟨v1, vs1, d1, ds1, p1, q1, rfl, rfl, rfl, h1, r1⟩ := trodAll_cons r0
  obtain ⟨v2, vs2, d2, ds2, p2, q2, rfl, rfl, rfl, h2, r2⟩ := trodAll_cons r1
  obtain ⟨rfl, rfl, rfl⟩ := trodAll_nil r2
  obtain rfl : args = #[v0, v1, v2] := by cases args; simp_all
  obtain ⟨rfl, rfl⟩ := trodVars_none hV
  have k0 := h0
  have lt0 : ∀ x ∈ p0, x.block < W.heap.size := by obtain ⟨m, hm⟩ := k0; exact DataW.trod_lt m _ _ _ hm
  obtain ⟨z0, w0⟩ := view_ints (hval 0 22 v0 rfl rfl) h0
  obtain ⟨a1, rfl, rfl, rfl, u1⟩ := open_int Try.underlying2 (hval 1 2 v1 rfl rfl) h1; have w1 := i64_of_wf u1
  obtain ⟨a2, rfl, rfl, rfl, u2⟩ := open_int Try.underlying2 (hval 2 2 v2 rfl rfl) h2; have w2 := i64_of_wf u2
  clear hA0 hval0
  refine (walk v0 z0 a1 a2 W w0 w1 w2).mono fun e W' ⟨he, bel⟩ => ?_
  subst he
  exact ⟨_, rfl, _, _, _, [], _, [], hW', trodAll_mk1 (shut_bool Try.underlying4 _), (trodAll_cons_mk (Below.trod laidOut (by kernel_rfl) (of_decide_eq_true (by kernel_rfl)) k0 bel lt0) (trodAll_cons_mk (shut_int Try.underlying2 u1) (trodAll_cons_mk (shut_int Try.underlying2 u2) trodAll_mk0))), rfl, bel.frame _, fun h => by cases h⟩

theorem over : Rows.fnExactMergeTextRow.holds Try.pinned (OpenSpec.ofChange Rows.fnExactMergeTextSpec) :=
  OpenClaim.holds_of_wide 11 Try.f11 rfl rfl rfl rfl rfl rfl rfl ⟨rfl, rfl, rfl, rfl, rfl⟩ rfl rfl rfl rfl rfl (by kernel_rfl) Try.func11 (by kernel_rfl)
    (of_decide_eq_true (by kernel_rfl)) (by unfold Func.isWrapper; first | (rw [if_pos (by decide +kernel)]; kernel_rfl) | (rw [if_neg (by decide +kernel)]; exact ⟨rfl, rfl⟩))
    (fun os started H enc _ => lifted os started H enc)

theorem proved : Rows.FnExactMergeTextSaid := over
end Go.Proofs.Ytgkgfpljblnpnaa.fnExactMergeText
