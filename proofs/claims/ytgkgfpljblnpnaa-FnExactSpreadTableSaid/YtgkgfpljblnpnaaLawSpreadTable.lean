/- 'laws.FnExactSpreadTable' returns true for all arguments: the program's function and the reference's return the same, and change no argument. No conditions. -/
import Derived.Test.YtgkgfpljblnpnaaSprS
import Derived.Test.YtgkgfpljblnpnaaState
import Derived.Test.YtgkgfpljblnpnaaLaws
import Derived.Test.YtgkgfpljblnpnaaFrame
import Derived.Deep.RegionHeld3
import Derived.Handy
import Derived.Test.YtgkgfpljblnpnaaSt
namespace Go.Proofs.Ytgkgfpljblnpnaa.fnExactSpreadTable
open Go.ChangeShapes Go.WideShapes Go.ChangeAt Go.RowKit
set_option maxRecDepth 100000
set_option linter.unusedVariables false
set_option linter.unusedSimpArgs false

set_option maxRecDepth 100000 in
set_option maxHeartbeats 4000000 in
theorem walk (n0 : Int) (v0 : Value) (z0 : List Int) (w : World) (h0 : RI w v0 z0) :
    Calls Try.prog 9 #[.agg #[.int .i64 n0, v0]] w fun e w' => e = .returned (.bool true) ∧ Below w.heap.size w w' := by
  obtain ⟨ao0, cap0, rfl⟩ := h0.shape
  have hlen0 := h0.len
  by_cases hl0 : z0.length ≤ 1048576
  · go_enter Try.func9, Try.ntmps9
    go_wp2_with fail
    refine (szStates_any n0 _ z0 _ _ (h0.below (by go_grown)) (by omega) (by omega)).mono ?_; rw [if_neg (by omega)]; rintro e W1 ⟨rfl, b2⟩
    have s1 : St w W1 [((⟨w.heap.size, 0, none⟩ : Addr), Value.int .i64 n0), ((⟨w.heap.size, 1, none⟩ : Addr), Value.slice ao0 z0.length cap0)] [] := ⟨bnext (by go_grown) b2, ⟨cnext b2 (by simp [go_sem]), cnext b2 (by simp [go_sem]), trivial⟩, trivial, fun _ _ _ h => by cases h⟩
    obtain ⟨kc0, kc1, -⟩ := s1.cs
    go_wp2_with fail
    refine (toStates_any n0 _ z0 _ (h0.below s1.bt) (by omega)).mono ?_; rintro e W3 ⟨t4, rfl, o5, b6⟩
    obtain ⟨ao7, cp8, rfl⟩ := o5.2.rg.shape
    clear kc0 kc1
    have s2 := s1.push b6 o5.2
    obtain ⟨kc0, kc1, -⟩ := s2.cs
    go_wp2_with fail
    refine (specSpread_any n0 _ z0 _ (s2.oi (OI.i64 o5) (List.mem_of_getElem? (i := 0) rfl)).ri).mono ?_; rintro e W9 ⟨g11, rfl, o12, b10⟩
    clear kc0 kc1
    have s3 := s2.push b10 o12.2
    obtain ⟨kc0, kc1, -⟩ := s3.cs
    go_wp2_with fail
    refine (toStates_any n0 _ z0 _ (h0.below s3.bt) (by omega)).mono ?_; rintro e W13 ⟨t14, rfl, o15, b16⟩
    obtain ⟨ao17, cp18, rfl⟩ := o15.2.rg.shape
    clear kc0 kc1
    have s4 := s3.push b16 o15.2
    obtain ⟨kc0, kc1, -⟩ := s4.cs
    clear kc0 kc1
    have s5 := s4.box2 (.int .i64 (n0)) (Value.slice ao17 (z0).length cp18) 49
    obtain ⟨kc0, kc1, kc2, kc3, -⟩ := s5.cs
    go_wp2_with fail
    refine (implSpread_any n0 _ z0 _ (s5.oi (OI.i64 o15) (List.mem_of_getElem? (i := 0) rfl)).ri).mono ?_; rintro e W19 ⟨g21, rfl, o22, b20⟩
    clear kc0 kc1 kc2 kc3
    have s6 := s5.push b20 o22.2
    obtain ⟨kc0, kc1, kc2, kc3, -⟩ := s6.cs
    go_wp2_with fail
    refine (eq_same _ _ (stN n0 z0) _ (s6.oi (OI.i64 o22) (List.mem_of_getElem? (i := 0) rfl)).ri (s6.oi (OI.i64 o12) (List.mem_of_getElem? (i := 2) rfl)).ri).mono ?_; rintro e W25 ⟨rfl, d24, hdd24⟩
    have s7 : St w W25 [((⟨W13.heap.size, 0, none⟩ : Addr), Value.int .i64 (n0)), ((⟨W13.heap.size, 1, none⟩ : Addr), (Value.slice ao17 (z0).length cp18)), ((⟨w.heap.size, 0, none⟩ : Addr), Value.int .i64 n0), ((⟨w.heap.size, 1, none⟩ : Addr), Value.slice ao0 z0.length cap0)] [(g21, (stN n0 z0).map (Value.int .i64)), ((Value.slice ao17 (z0).length cp18), (z0).map (Value.int .i64)), (g11, (stN n0 z0).map (Value.int .i64)), ((Value.slice ao7 (z0).length cp8), (z0).map (Value.int .i64))] := by rw [hdd24]; exact s6.drewN d24
    clear hdd24
    clear kc0 kc1 kc2 kc3
    obtain ⟨kc0, kc1, kc2, kc3, -⟩ := s7.cs
    go_wp2_with fail
    go_region_held3 (fun W' => W'.cell? (⟨W13.heap.size, 0, none⟩ : Addr) = some (Value.int .i64 (n0)) ∧ W'.cell? (⟨W13.heap.size, 1, none⟩ : Addr) = some ((Value.slice ao17 (z0).length cp18)) ∧ W'.cell? (⟨w.heap.size, 0, none⟩ : Addr) = some (Value.int .i64 n0) ∧ W'.cell? (⟨w.heap.size, 1, none⟩ : Addr) = some (Value.slice ao0 z0.length cap0) ∧ St w W' [((⟨W13.heap.size, 0, none⟩ : Addr), Value.int .i64 (n0)), ((⟨W13.heap.size, 1, none⟩ : Addr), (Value.slice ao17 (z0).length cp18)), ((⟨w.heap.size, 0, none⟩ : Addr), Value.int .i64 n0), ((⟨w.heap.size, 1, none⟩ : Addr), Value.slice ao0 z0.length cap0)] [(g21, (stN n0 z0).map (Value.int .i64)), ((Value.slice ao17 (z0).length cp18), (z0).map (Value.int .i64)), (g11, (stN n0 z0).map (Value.int .i64)), ((Value.slice ao7 (z0).length cp8), (z0).map (Value.int .i64))])
      ((go_split_ands; refine ⟨?_, ?_, ?_, ?_, ?_⟩ <;> first | assumption | exact cnext (by assumption) (by assumption) | exact St.below (by assumption) (by assumption) | exact St.below (St.drew (by assumption)) (by assumption) | exact St.drew (by assumption) | exact St.drewN (by assumption) _))
      (first
        | (go_at_call 38; with_reducible refine Calls.mono (toStates_any n0 _ z0 _ ?_ (by omega)) ?_; (exact RI.below (St.bt (ks := [((⟨W13.heap.size, 0, none⟩ : Addr), Value.int .i64 (n0)), ((⟨W13.heap.size, 1, none⟩ : Addr), (Value.slice ao17 (z0).length cp18)), ((⟨w.heap.size, 0, none⟩ : Addr), Value.int .i64 n0), ((⟨w.heap.size, 1, none⟩ : Addr), Value.slice ao0 z0.length cap0)]) (l := [(g21, (stN n0 z0).map (Value.int .i64)), ((Value.slice ao17 (z0).length cp18), (z0).map (Value.int .i64)), (g11, (stN n0 z0).map (Value.int .i64)), ((Value.slice ao7 (z0).length cp8), (z0).map (Value.int .i64))]) (by go_split_ands; first | assumption | exact St.drew (by assumption))) h0); rintro e W26 ⟨t27, rfl, o28, b29⟩; have qo28 := OI.shape o28; obtain ⟨ao30, cp31, rfl⟩ := qo28)
        | (go_at_call 40; with_reducible refine Calls.mono (eqStates_same (n0) _ _ z0 _ ?_ ?_) ?_; (exact OI.ri (St.oi (ks := [((⟨W13.heap.size, 0, none⟩ : Addr), Value.int .i64 (n0)), ((⟨W13.heap.size, 1, none⟩ : Addr), (Value.slice ao17 (z0).length cp18)), ((⟨w.heap.size, 0, none⟩ : Addr), Value.int .i64 n0), ((⟨w.heap.size, 1, none⟩ : Addr), Value.slice ao0 z0.length cap0)]) (l := [(g21, (stN n0 z0).map (Value.int .i64)), ((Value.slice ao17 (z0).length cp18), (z0).map (Value.int .i64)), (g11, (stN n0 z0).map (Value.int .i64)), ((Value.slice ao7 (z0).length cp8), (z0).map (Value.int .i64))]) (by go_split_ands; first | assumption | exact St.drew (by assumption)) ((OI.i64 o15)) (List.mem_of_getElem? (i := 1) rfl))); (exact o28.ri); rintro e W32 ⟨rfl, b33⟩))
    have s8 : St w W32 [((⟨W13.heap.size, 0, none⟩ : Addr), Value.int .i64 (n0)), ((⟨W13.heap.size, 1, none⟩ : Addr), (Value.slice ao17 (z0).length cp18)), ((⟨w.heap.size, 0, none⟩ : Addr), Value.int .i64 n0), ((⟨w.heap.size, 1, none⟩ : Addr), Value.slice ao0 z0.length cap0)] [(g21, (stN n0 z0).map (Value.int .i64)), ((Value.slice ao17 (z0).length cp18), (z0).map (Value.int .i64)), (g11, (stN n0 z0).map (Value.int .i64)), ((Value.slice ao7 (z0).length cp8), (z0).map (Value.int .i64))] := by go_split_ands; assumption
    clear kc0 kc1 kc2 kc3
    obtain ⟨kc0, kc1, kc2, kc3, -⟩ := s8.cs
    go_wp2_with fail
    refine (markStates_any (n0) _ (z0) _ (1) _ (s8.oi (OI.i64 o15) (List.mem_of_getElem? (i := 1) rfl)) (by omega) (by omega) (by omega)).mono ?_; rintro e W34 ⟨rfl, o35, r36⟩
    clear kc0 kc1 kc2 kc3
    have s9 : St w W34 [((⟨W13.heap.size, 0, none⟩ : Addr), Value.int .i64 (n0)), ((⟨W13.heap.size, 1, none⟩ : Addr), (Value.slice ao17 (z0).length cp18)), ((⟨w.heap.size, 0, none⟩ : Addr), Value.int .i64 n0), ((⟨w.heap.size, 1, none⟩ : Addr), Value.slice ao0 z0.length cap0)] [(g21, (stN n0 z0).map (Value.int .i64)), ((Value.slice ao17 (z0).length cp18), ((marks (1) (z0).length)).map (Value.int .i64)), (g11, (stN n0 z0).map (Value.int .i64)), ((Value.slice ao7 (z0).length cp8), (z0).map (Value.int .i64))] := s8.mark 1 rfl r36 o35.2
    obtain ⟨kc0, kc1, kc2, kc3, -⟩ := s9.cs
    go_wp2_with fail
    refine (eq_same _ _ (stN n0 z0) _ (s9.oi (OI.i64 o22) (List.mem_of_getElem? (i := 0) rfl)).ri (s9.oi (OI.i64 o12) (List.mem_of_getElem? (i := 2) rfl)).ri).mono ?_; rintro e W39 ⟨rfl, d38, hdd38⟩
    have s10 : St w W39 [((⟨W13.heap.size, 0, none⟩ : Addr), Value.int .i64 (n0)), ((⟨W13.heap.size, 1, none⟩ : Addr), (Value.slice ao17 (z0).length cp18)), ((⟨w.heap.size, 0, none⟩ : Addr), Value.int .i64 n0), ((⟨w.heap.size, 1, none⟩ : Addr), Value.slice ao0 z0.length cap0)] [(g21, (stN n0 z0).map (Value.int .i64)), ((Value.slice ao17 (z0).length cp18), ((marks (1) (z0).length)).map (Value.int .i64)), (g11, (stN n0 z0).map (Value.int .i64)), ((Value.slice ao7 (z0).length cp8), (z0).map (Value.int .i64))] := by rw [hdd38]; exact s9.drewN d38
    clear hdd38
    clear kc0 kc1 kc2 kc3
    obtain ⟨kc0, kc1, kc2, kc3, -⟩ := s10.cs
    go_wp2_with fail
    refine (mark_any _ (stN n0 z0) _ (1) _ (s10.oi (OI.i64 o22) (List.mem_of_getElem? (i := 0) rfl)) (stN_len n0 z0) (by omega) (by omega)).mono ?_; rintro e W40 ⟨rfl, o41, r42⟩
    clear kc0 kc1 kc2 kc3
    have s11 : St w W40 [((⟨W13.heap.size, 0, none⟩ : Addr), Value.int .i64 (n0)), ((⟨W13.heap.size, 1, none⟩ : Addr), (Value.slice ao17 (z0).length cp18)), ((⟨w.heap.size, 0, none⟩ : Addr), Value.int .i64 n0), ((⟨w.heap.size, 1, none⟩ : Addr), Value.slice ao0 z0.length cap0)] [(g21, ((marks (1) (stN n0 z0).length)).map (Value.int .i64)), ((Value.slice ao17 (z0).length cp18), ((marks (1) (z0).length)).map (Value.int .i64)), (g11, (stN n0 z0).map (Value.int .i64)), ((Value.slice ao7 (z0).length cp8), (z0).map (Value.int .i64))] := s10.mark 0 rfl r42 o41.2
    obtain ⟨kc0, kc1, kc2, kc3, -⟩ := s11.cs
    go_wp2_with fail
    refine (held_same _ (stN n0 z0).length 1 _ (s11.oi (OI.i64 o41) (List.mem_of_getElem? (i := 0) rfl)).ri (stN_len n0 z0) (by decide) (by decide)).mono ?_; rintro e _ ⟨rfl, rfl⟩
    go_wp2_with fail
    refine (toStates_any n0 _ z0 _ (h0.below s11.bt) (by omega)).mono ?_; rintro e W45 ⟨t46, rfl, o47, b48⟩
    obtain ⟨ao49, cp50, rfl⟩ := o47.2.rg.shape
    clear kc0 kc1 kc2 kc3
    have s12 := s11.push b48 o47.2
    obtain ⟨kc0, kc1, kc2, kc3, -⟩ := s12.cs
    go_wp2_with fail
    refine (implSpread_any n0 _ z0 _ (s12.oi (OI.i64 o47) (List.mem_of_getElem? (i := 0) rfl)).ri).mono ?_; rintro e W51 ⟨g53, rfl, o54, b52⟩
    clear kc0 kc1 kc2 kc3
    have s13 := s12.push b52 o54.2
    obtain ⟨kc0, kc1, kc2, kc3, -⟩ := s13.cs
    go_wp2_with fail
    refine (eq_same _ _ (stN n0 z0) _ (s13.oi (OI.i64 o54) (List.mem_of_getElem? (i := 0) rfl)).ri (s13.oi (OI.i64 o12) (List.mem_of_getElem? (i := 4) rfl)).ri).mono ?_; rintro e W57 ⟨rfl, d56, hdd56⟩
    have s14 : St w W57 [((⟨W13.heap.size, 0, none⟩ : Addr), Value.int .i64 (n0)), ((⟨W13.heap.size, 1, none⟩ : Addr), (Value.slice ao17 (z0).length cp18)), ((⟨w.heap.size, 0, none⟩ : Addr), Value.int .i64 n0), ((⟨w.heap.size, 1, none⟩ : Addr), Value.slice ao0 z0.length cap0)] [(g53, (stN n0 z0).map (Value.int .i64)), ((Value.slice ao49 (z0).length cp50), (z0).map (Value.int .i64)), (g21, ((marks (1) (stN n0 z0).length)).map (Value.int .i64)), ((Value.slice ao17 (z0).length cp18), ((marks (1) (z0).length)).map (Value.int .i64)), (g11, (stN n0 z0).map (Value.int .i64)), ((Value.slice ao7 (z0).length cp8), (z0).map (Value.int .i64))] := by rw [hdd56]; exact s13.drewN d56
    clear hdd56
    clear kc0 kc1 kc2 kc3
    obtain ⟨kc0, kc1, kc2, kc3, -⟩ := s14.cs
    go_wp2_with fail
    refine (held_same _ (stN n0 z0).length 1 _ (s14.oi (OI.i64 o41) (List.mem_of_getElem? (i := 2) rfl)).ri (stN_len n0 z0) (by decide) (by decide)).mono ?_; rintro e _ ⟨rfl, rfl⟩
    go_wp2
    go_ret
    exact ⟨rfl, s14.bt⟩
  · go_enter Try.func9, Try.ntmps9
    go_wp2_with fail
    refine (szStates_any n0 _ z0 _ _ (h0.below (by go_grown)) (by omega) (by omega)).mono ?_; rw [if_pos (by omega)]; rintro e W60 ⟨rfl, b61⟩
    have s15 : St w W60 [((⟨w.heap.size, 0, none⟩ : Addr), Value.int .i64 n0), ((⟨w.heap.size, 1, none⟩ : Addr), Value.slice ao0 z0.length cap0)] [] := ⟨bnext (by go_grown) b61, ⟨cnext b61 (by simp [go_sem]), cnext b61 (by simp [go_sem]), trivial⟩, trivial, fun _ _ _ h => by cases h⟩
    obtain ⟨kc0, kc1, -⟩ := s15.cs
    go_wp2
    go_ret
    exact ⟨rfl, s15.bt⟩

set_option maxRecDepth 100000 in
theorem lifted (os : Os) (started : os.Started) (H : Type) (enc : TypeId × Value → H) :
    ReturnsInHanded {} Try.checked os 9 .any (Rows.fnExactSpreadTableSpec.pre6 enc Try.prog Try.f9 Rows.fnExactSpreadTableRow.domain false) (Rows.fnExactSpreadTableSpec.post enc Try.prog Try.f9 false true false false) := by
  refine returnsInHanded_of_change (C := Try.checked) own started (by kernel_rfl) Try.func9
    (ChangeSpec.witness6 (enc := enc) (C := Try.checked) false ⟨#[], #[.agg #[.int .i64 0, .slice none 0 0]], []⟩ 8 (by kernel_rfl) (by kernel_rfl) (by kernel_rfl) (by kernel_rfl)) ?_
  intro W base args ds gs before hval0 hW hcnd _
  have hval : ∀ (j : Nat) t v, Try.f9.params[j]? = some t → args[j]? = some v → Value.okWide Try.prog W .any base t v := hval0
  have hW' := hW
  obtain ⟨p, q, hA0, hV, rfl, hfz, hnd⟩ := hW
  have hA : DataW.TrodAll enc Try.prog W 0 (fun _ => true) true Try.f9.params.toList args.toList ds p := hA0
  rw [Try.params9] at hA hval
  obtain ⟨v0, vs0, d0, ds0, p0, q0, hargs, rfl, rfl, h0, r0⟩ := trodAll_cons hA
  obtain ⟨rfl, rfl, rfl⟩ := trodAll_nil r0
  obtain rfl : args = #[v0] := by cases args; simp_all
  obtain ⟨rfl, rfl⟩ := trodVars_none hV
  have k0 := h0
  have lt0 : ∀ x ∈ p0, x.block < W.heap.size := by obtain ⟨m, hm⟩ := k0; exact DataW.trod_lt m _ _ _ hm
  obtain ⟨n0, y0, z0, rfl, w0⟩ := view_States (hval 0 46 v0 rfl rfl) h0
  clear hA0 hval0
  refine (walk n0 y0 z0 W w0).mono fun e W' ⟨he, bel⟩ => ?_
  subst he
  exact ⟨_, rfl, _, _, _, [], _, [], hW', trodAll_mk1 (shut_bool Try.underlying4 _), (trodAll_cons_mk (Below.trod laidOut (by kernel_rfl) (of_decide_eq_true (by kernel_rfl)) k0 bel lt0) trodAll_mk0), rfl, bel.frame _, fun h => by cases h⟩

theorem over : Rows.fnExactSpreadTableRow.holds Try.pinned (OpenSpec.ofChange Rows.fnExactSpreadTableSpec) :=
  OpenClaim.holds_of_wide 9 Try.f9 rfl rfl rfl rfl rfl rfl rfl ⟨rfl, rfl, rfl, rfl, rfl⟩ rfl rfl rfl rfl rfl (by kernel_rfl) Try.func9 (by kernel_rfl)
    (of_decide_eq_true (by kernel_rfl)) (by unfold Func.isWrapper; first | (rw [if_pos (by decide +kernel)]; kernel_rfl) | (rw [if_neg (by decide +kernel)]; exact ⟨rfl, rfl⟩))
    (fun os started H enc _ => lifted os started H enc)

theorem proved : Rows.FnExactSpreadTableSaid := over
end Go.Proofs.Ytgkgfpljblnpnaa.fnExactSpreadTable
