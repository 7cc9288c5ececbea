/- 'laws.FnExactThroughOf' returns true for all arguments: the program's function and the reference's return the same, and change no argument. No conditions. -/
import Derived.Test.YteejcdfmpmcmlaaThr
import Derived.Test.YteejcdfmpmcmlaaState
import Derived.Test.YteejcdfmpmcmlaaLaws
import Derived.Test.YteejcdfmpmcmlaaFrame
import Derived.Deep.RegionHeld3
import Derived.Handy
import Derived.Test.YteejcdfmpmcmlaaStC
namespace Go.Proofs.Yteejcdfmpmcmlaa.fnExactThroughOf
open Go.ChangeShapes Go.WideShapes Go.ChangeAt Go.RowKit
set_option maxRecDepth 100000
set_option linter.unusedVariables false
set_option linter.unusedSimpArgs false

set_option maxRecDepth 100000 in
set_option maxHeartbeats 4000000 in
theorem walk (n0 m0 : Int) (v0 : Value) (z0 : List Nat) (v1 : Value) (z1 : List Nat) (w : World) (h0 : Rg eF w v0 z0) (h1 : Rg eF w v1 z1) :
    Calls Try.prog 3 #[.agg #[.int .i64 n0, .int .i64 m0, v0], v1] w fun e w' => e = .returned (.bool true) ∧ Below w.heap.size w w' := by
  obtain ⟨ao0, cap0, rfl⟩ := h0.shape
  have hlen0 := h0.len
  obtain ⟨ao1, cap1, rfl⟩ := h1.shape
  have hlen1 := h1.len
  by_cases hl0 : z1.length ≤ 1048576
  · by_cases hl1 : z0.length ≤ 1048576
    · go_enter Try.func3, Try.ntmps3
      go_wp2_with fail
      refine (szChannel_any (n0) (m0) _ z0 _ _ (h0.below (by go_grown)) (by omega) (by omega)).mono ?_; rw [if_neg (by omega)]; rintro e W1 ⟨rfl, b2⟩
      have s1 : St w W1 [((⟨w.heap.size, 0, none⟩ : Addr), Value.int .i64 n0), ((⟨w.heap.size, 1, none⟩ : Addr), Value.int .i64 m0), ((⟨w.heap.size, 2, none⟩ : Addr), Value.slice ao0 z0.length cap0)] [] := ⟨bnext (by go_grown) b2, ⟨cnext b2 (by simp [go_sem]), cnext b2 (by simp [go_sem]), cnext b2 (by simp [go_sem]), trivial⟩, trivial, fun _ _ _ h => by cases h⟩
      obtain ⟨kc0, kc1, kc2, -⟩ := s1.cs
      go_wp2_with fail
      refine (toChannel_any (n0) (m0) _ z0 _ (h0.below s1.bt) (by omega)).mono ?_; rintro e W3 ⟨t4, rfl, o5, b6⟩
      obtain ⟨ao7, cp8, rfl⟩ := o5.rg.shape
      clear kc0 kc1 kc2
      have s2 := s1.push b6 o5
      obtain ⟨kc0, kc1, kc2, -⟩ := s2.cs
      go_wp2_with fail
      refine (toF_any _ z1 _ (h1.below s2.bt) (by omega)).mono ?_; rintro e W9 ⟨t10, rfl, o11, b12⟩
      clear kc0 kc1 kc2
      have s3 := s2.push b12 o11
      obtain ⟨kc0, kc1, kc2, -⟩ := s3.cs
      go_wp2_with fail
      refine (specThr_any (n0) (m0) _ z0 _ z1 _ (s3.of (List.mem_of_getElem? (i := 1) rfl)).rg (s3.of (List.mem_of_getElem? (i := 0) rfl)).rg).mono ?_; rintro e W13 ⟨g15, rfl, o16, b14⟩
      clear kc0 kc1 kc2
      have s4 := s3.push b14 o16
      obtain ⟨kc0, kc1, kc2, -⟩ := s4.cs
      go_wp2_with fail
      refine (toChannel_any (n0) (m0) _ z0 _ (h0.below s4.bt) (by omega)).mono ?_; rintro e W17 ⟨t18, rfl, o19, b20⟩
      obtain ⟨ao21, cp22, rfl⟩ := o19.rg.shape
      clear kc0 kc1 kc2
      have s5 := s4.push b20 o19
      obtain ⟨kc0, kc1, kc2, -⟩ := s5.cs
      clear kc0 kc1 kc2
      have s6 := s5.box3 (Value.int .i64 (n0)) (Value.int .i64 (m0)) ((Value.slice ao21 (z0).length cp22)) 28
      obtain ⟨kc0, kc1, kc2, kc3, kc4, kc5, -⟩ := s6.cs
      go_wp2_with fail
      refine (toF_any _ z1 _ (h1.below s6.bt) (by omega)).mono ?_; rintro e W23 ⟨t24, rfl, o25, b26⟩
      clear kc0 kc1 kc2 kc3 kc4 kc5
      have s7 := s6.push b26 o25
      obtain ⟨kc0, kc1, kc2, kc3, kc4, kc5, -⟩ := s7.cs
      go_wp2_with fail
      refine (implThr_any (n0) (m0) _ z0 _ z1 _ (s7.of (List.mem_of_getElem? (i := 1) rfl)).rg (s7.of (List.mem_of_getElem? (i := 0) rfl)).rg).mono ?_; rintro e W27 ⟨g29, rfl, o30, b28⟩
      clear kc0 kc1 kc2 kc3 kc4 kc5
      have s8 := s7.push b28 o30
      obtain ⟨kc0, kc1, kc2, kc3, kc4, kc5, -⟩ := s8.cs
      go_wp2_with fail
      refine (eqF_same _ _ (toZ n0 m0 z0 z1) _ (s8.of (List.mem_of_getElem? (i := 0) rfl)).rg (s8.of (List.mem_of_getElem? (i := 3) rfl)).rg).mono ?_; rintro e W33 ⟨rfl, b31⟩
      clear kc0 kc1 kc2 kc3 kc4 kc5
      have s9 := s8.below b31
      obtain ⟨kc0, kc1, kc2, kc3, kc4, kc5, -⟩ := s9.cs
      go_wp2_with fail
      go_region_held3 (fun W' => W'.cell? (⟨W17.heap.size, 0, none⟩ : Addr) = some (Value.int .i64 (n0)) ∧ W'.cell? (⟨W17.heap.size, 1, none⟩ : Addr) = some (Value.int .i64 (m0)) ∧ W'.cell? (⟨W17.heap.size, 2, none⟩ : Addr) = some ((Value.slice ao21 (z0).length cp22)) ∧ W'.cell? (⟨w.heap.size, 0, none⟩ : Addr) = some (Value.int .i64 n0) ∧ W'.cell? (⟨w.heap.size, 1, none⟩ : Addr) = some (Value.int .i64 m0) ∧ W'.cell? (⟨w.heap.size, 2, none⟩ : Addr) = some (Value.slice ao0 z0.length cap0) ∧ St w W' [((⟨W17.heap.size, 0, none⟩ : Addr), Value.int .i64 (n0)), ((⟨W17.heap.size, 1, none⟩ : Addr), Value.int .i64 (m0)), ((⟨W17.heap.size, 2, none⟩ : Addr), (Value.slice ao21 (z0).length cp22)), ((⟨w.heap.size, 0, none⟩ : Addr), Value.int .i64 n0), ((⟨w.heap.size, 1, none⟩ : Addr), Value.int .i64 m0), ((⟨w.heap.size, 2, none⟩ : Addr), Value.slice ao0 z0.length cap0)] [(g29, (toZ n0 m0 z0 z1).map eF), (t24, (z1).map eF), ((Value.slice ao21 (z0).length cp22), (z0).map eF), (g15, (toZ n0 m0 z0 z1).map eF), (t10, (z1).map eF), ((Value.slice ao7 (z0).length cp8), (z0).map eF)])
        ((go_split_ands; refine ⟨?_, ?_, ?_, ?_, ?_, ?_, ?_⟩ <;> first | assumption | exact cnext (by assumption) (by assumption) | exact St.below (by assumption) (by assumption) | exact St.below (St.drew (by assumption)) (by assumption) | exact St.drew (by assumption) | exact St.drewN (by assumption) _))
        (first
          | (go_at_call 9; with_reducible refine Calls.mono (toChannel_any (n0) (m0) _ z0 _ ?_ (by omega)) ?_; (exact Rg.below (St.bt (ks := [((⟨W17.heap.size, 0, none⟩ : Addr), Value.int .i64 (n0)), ((⟨W17.heap.size, 1, none⟩ : Addr), Value.int .i64 (m0)), ((⟨W17.heap.size, 2, none⟩ : Addr), (Value.slice ao21 (z0).length cp22)), ((⟨w.heap.size, 0, none⟩ : Addr), Value.int .i64 n0), ((⟨w.heap.size, 1, none⟩ : Addr), Value.int .i64 m0), ((⟨w.heap.size, 2, none⟩ : Addr), Value.slice ao0 z0.length cap0)]) (l := [(g29, (toZ n0 m0 z0 z1).map eF), (t24, (z1).map eF), ((Value.slice ao21 (z0).length cp22), (z0).map eF), (g15, (toZ n0 m0 z0 z1).map eF), (t10, (z1).map eF), ((Value.slice ao7 (z0).length cp8), (z0).map eF)]) (by go_split_ands; first | assumption | exact St.drew (by assumption))) h0); rintro e W34 ⟨t35, rfl, o36, b37⟩; have qo36 := Og.shapeF o36; obtain ⟨ao38, cp39, rfl⟩ := qo36)
          | (go_at_call 13; with_reducible refine Calls.mono (eqChannel_same (n0) (m0) _ _ z0 _ ?_ ?_) ?_; (exact Og.rg (St.of (ks := [((⟨W17.heap.size, 0, none⟩ : Addr), Value.int .i64 (n0)), ((⟨W17.heap.size, 1, none⟩ : Addr), Value.int .i64 (m0)), ((⟨W17.heap.size, 2, none⟩ : Addr), (Value.slice ao21 (z0).length cp22)), ((⟨w.heap.size, 0, none⟩ : Addr), Value.int .i64 n0), ((⟨w.heap.size, 1, none⟩ : Addr), Value.int .i64 m0), ((⟨w.heap.size, 2, none⟩ : Addr), Value.slice ao0 z0.length cap0)]) (l := [(g29, (toZ n0 m0 z0 z1).map eF), (t24, (z1).map eF), ((Value.slice ao21 (z0).length cp22), (z0).map eF), (g15, (toZ n0 m0 z0 z1).map eF), (t10, (z1).map eF), ((Value.slice ao7 (z0).length cp8), (z0).map eF)]) (by go_split_ands; first | assumption | exact St.drew (by assumption)) (List.mem_of_getElem? (i := 2) rfl))); (exact o36.rg); rintro e W40 ⟨rfl, b41⟩))
      have s10 : St w W40 [((⟨W17.heap.size, 0, none⟩ : Addr), Value.int .i64 (n0)), ((⟨W17.heap.size, 1, none⟩ : Addr), Value.int .i64 (m0)), ((⟨W17.heap.size, 2, none⟩ : Addr), (Value.slice ao21 (z0).length cp22)), ((⟨w.heap.size, 0, none⟩ : Addr), Value.int .i64 n0), ((⟨w.heap.size, 1, none⟩ : Addr), Value.int .i64 m0), ((⟨w.heap.size, 2, none⟩ : Addr), Value.slice ao0 z0.length cap0)] [(g29, (toZ n0 m0 z0 z1).map eF), (t24, (z1).map eF), ((Value.slice ao21 (z0).length cp22), (z0).map eF), (g15, (toZ n0 m0 z0 z1).map eF), (t10, (z1).map eF), ((Value.slice ao7 (z0).length cp8), (z0).map eF)] := by go_split_ands; assumption
      clear kc0 kc1 kc2 kc3 kc4 kc5
      obtain ⟨kc0, kc1, kc2, kc3, kc4, kc5, -⟩ := s10.cs
      go_wp2_with fail
      refine (toF_any _ z1 _ (h1.below s10.bt) (by omega)).mono ?_; rintro e W42 ⟨t43, rfl, o44, b45⟩
      clear kc0 kc1 kc2 kc3 kc4 kc5
      have s11 := s10.push b45 o44
      obtain ⟨kc0, kc1, kc2, kc3, kc4, kc5, -⟩ := s11.cs
      go_wp2_with fail
      refine (eqF_same _ _ (z1) _ (s11.of (List.mem_of_getElem? (i := 2) rfl)).rg (s11.of (List.mem_of_getElem? (i := 0) rfl)).rg).mono ?_; rintro e W48 ⟨rfl, b46⟩
      clear kc0 kc1 kc2 kc3 kc4 kc5
      have s12 := s11.below b46
      obtain ⟨kc0, kc1, kc2, kc3, kc4, kc5, -⟩ := s12.cs
      go_wp2_with fail
      refine (markChannel_any (n0) (m0) _ (z0) _ (1) _ (s12.of (List.mem_of_getElem? (i := 3) rfl)) (by omega) (by omega) (by omega)).mono ?_; rintro e W49 ⟨rfl, o50, r51⟩
      clear kc0 kc1 kc2 kc3 kc4 kc5
      have s13 : St w W49 [((⟨W17.heap.size, 0, none⟩ : Addr), Value.int .i64 (n0)), ((⟨W17.heap.size, 1, none⟩ : Addr), Value.int .i64 (m0)), ((⟨W17.heap.size, 2, none⟩ : Addr), (Value.slice ao21 (z0).length cp22)), ((⟨w.heap.size, 0, none⟩ : Addr), Value.int .i64 n0), ((⟨w.heap.size, 1, none⟩ : Addr), Value.int .i64 m0), ((⟨w.heap.size, 2, none⟩ : Addr), Value.slice ao0 z0.length cap0)] [(t43, (z1).map eF), (g29, (toZ n0 m0 z0 z1).map eF), (t24, (z1).map eF), ((Value.slice ao21 (z0).length cp22), ((marksF (1) (z0).length)).map eF), (g15, (toZ n0 m0 z0 z1).map eF), (t10, (z1).map eF), ((Value.slice ao7 (z0).length cp8), (z0).map eF)] := s12.mark 3 rfl r51 o50
      obtain ⟨kc0, kc1, kc2, kc3, kc4, kc5, -⟩ := s13.cs
      go_wp2_with fail
      refine (markF_any _ (z1) _ (1 + ((z0).length : Int)) _ (s13.of (List.mem_of_getElem? (i := 2) rfl)) (by omega) (by omega) (by omega)).mono ?_; rintro e W52 ⟨rfl, o53, r54⟩
      clear kc0 kc1 kc2 kc3 kc4 kc5
      have s14 : St w W52 [((⟨W17.heap.size, 0, none⟩ : Addr), Value.int .i64 (n0)), ((⟨W17.heap.size, 1, none⟩ : Addr), Value.int .i64 (m0)), ((⟨W17.heap.size, 2, none⟩ : Addr), (Value.slice ao21 (z0).length cp22)), ((⟨w.heap.size, 0, none⟩ : Addr), Value.int .i64 n0), ((⟨w.heap.size, 1, none⟩ : Addr), Value.int .i64 m0), ((⟨w.heap.size, 2, none⟩ : Addr), Value.slice ao0 z0.length cap0)] [(t43, (z1).map eF), (g29, (toZ n0 m0 z0 z1).map eF), (t24, ((marksF (1 + ((z0).length : Int)) (z1).length)).map eF), ((Value.slice ao21 (z0).length cp22), ((marksF (1) (z0).length)).map eF), (g15, (toZ n0 m0 z0 z1).map eF), (t10, (z1).map eF), ((Value.slice ao7 (z0).length cp8), (z0).map eF)] := s13.mark 2 rfl r54 o53
      obtain ⟨kc0, kc1, kc2, kc3, kc4, kc5, -⟩ := s14.cs
      go_wp2_with fail
      refine (eqF_same _ _ (toZ n0 m0 z0 z1) _ (s14.of (List.mem_of_getElem? (i := 1) rfl)).rg (s14.of (List.mem_of_getElem? (i := 4) rfl)).rg).mono ?_; rintro e W57 ⟨rfl, b55⟩
      clear kc0 kc1 kc2 kc3 kc4 kc5
      have s15 := s14.below b55
      obtain ⟨kc0, kc1, kc2, kc3, kc4, kc5, -⟩ := s15.cs
      go_wp2_with fail
      refine (markF_any _ (toZ n0 m0 z0 z1) _ (1) _ (s15.of (List.mem_of_getElem? (i := 1) rfl)) (toZ_len n0 m0 z0 z1) (by omega) (by omega)).mono ?_; rintro e W58 ⟨rfl, o59, r60⟩
      clear kc0 kc1 kc2 kc3 kc4 kc5
      have s16 : St w W58 [((⟨W17.heap.size, 0, none⟩ : Addr), Value.int .i64 (n0)), ((⟨W17.heap.size, 1, none⟩ : Addr), Value.int .i64 (m0)), ((⟨W17.heap.size, 2, none⟩ : Addr), (Value.slice ao21 (z0).length cp22)), ((⟨w.heap.size, 0, none⟩ : Addr), Value.int .i64 n0), ((⟨w.heap.size, 1, none⟩ : Addr), Value.int .i64 m0), ((⟨w.heap.size, 2, none⟩ : Addr), Value.slice ao0 z0.length cap0)] [(t43, (z1).map eF), (g29, ((marksF (1) (toZ n0 m0 z0 z1).length)).map eF), (t24, ((marksF (1 + ((z0).length : Int)) (z1).length)).map eF), ((Value.slice ao21 (z0).length cp22), ((marksF (1) (z0).length)).map eF), (g15, (toZ n0 m0 z0 z1).map eF), (t10, (z1).map eF), ((Value.slice ao7 (z0).length cp8), (z0).map eF)] := s15.mark 1 rfl r60 o59
      obtain ⟨kc0, kc1, kc2, kc3, kc4, kc5, -⟩ := s16.cs
      go_wp2_with fail
      refine (heldF_same _ (toZ n0 m0 z0 z1).length (1) _ (s16.of (List.mem_of_getElem? (i := 1) rfl)).rg (toZ_len n0 m0 z0 z1) (by omega) (by omega)).mono ?_; rintro e _ ⟨rfl, rfl⟩
      go_wp2_with fail
      refine (toChannel_any (n0) (m0) _ z0 _ (h0.below s16.bt) (by omega)).mono ?_; rintro e W63 ⟨t64, rfl, o65, b66⟩
      obtain ⟨ao67, cp68, rfl⟩ := o65.rg.shape
      clear kc0 kc1 kc2 kc3 kc4 kc5
      have s17 := s16.push b66 o65
      obtain ⟨kc0, kc1, kc2, kc3, kc4, kc5, -⟩ := s17.cs
      go_wp2_with fail
      refine (toF_any _ z1 _ (h1.below s17.bt) (by omega)).mono ?_; rintro e W69 ⟨t70, rfl, o71, b72⟩
      clear kc0 kc1 kc2 kc3 kc4 kc5
      have s18 := s17.push b72 o71
      obtain ⟨kc0, kc1, kc2, kc3, kc4, kc5, -⟩ := s18.cs
      go_wp2_with fail
      refine (implThr_any (n0) (m0) _ z0 _ z1 _ (s18.of (List.mem_of_getElem? (i := 1) rfl)).rg (s18.of (List.mem_of_getElem? (i := 0) rfl)).rg).mono ?_; rintro e W73 ⟨g75, rfl, o76, b74⟩
      clear kc0 kc1 kc2 kc3 kc4 kc5
      have s19 := s18.push b74 o76
      obtain ⟨kc0, kc1, kc2, kc3, kc4, kc5, -⟩ := s19.cs
      go_wp2_with fail
      refine (eqF_same _ _ (toZ n0 m0 z0 z1) _ (s19.of (List.mem_of_getElem? (i := 0) rfl)).rg (s19.of (List.mem_of_getElem? (i := 7) rfl)).rg).mono ?_; rintro e W79 ⟨rfl, b77⟩
      clear kc0 kc1 kc2 kc3 kc4 kc5
      have s20 := s19.below b77
      obtain ⟨kc0, kc1, kc2, kc3, kc4, kc5, -⟩ := s20.cs
      go_wp2_with fail
      refine (heldF_same _ (toZ n0 m0 z0 z1).length (1) _ (s20.of (List.mem_of_getElem? (i := 4) rfl)).rg (toZ_len n0 m0 z0 z1) (by omega) (by omega)).mono ?_; rintro e _ ⟨rfl, rfl⟩
      go_wp2
      go_ret
      exact ⟨rfl, s20.bt⟩
    · go_enter Try.func3, Try.ntmps3
      go_wp2_with fail
      refine (szChannel_any (n0) (m0) _ z0 _ _ (h0.below (by go_grown)) (by omega) (by omega)).mono ?_; rw [if_pos (by omega)]; rintro e W82 ⟨rfl, b83⟩
      have s21 : St w W82 [((⟨w.heap.size, 0, none⟩ : Addr), Value.int .i64 n0), ((⟨w.heap.size, 1, none⟩ : Addr), Value.int .i64 m0), ((⟨w.heap.size, 2, none⟩ : Addr), Value.slice ao0 z0.length cap0)] [] := ⟨bnext (by go_grown) b83, ⟨cnext b83 (by simp [go_sem]), cnext b83 (by simp [go_sem]), cnext b83 (by simp [go_sem]), trivial⟩, trivial, fun _ _ _ h => by cases h⟩
      obtain ⟨kc0, kc1, kc2, -⟩ := s21.cs
      go_wp2
      go_ret
      exact ⟨rfl, s21.bt⟩
  · go_enter Try.func3, Try.ntmps3
    go_wp2
    go_ret
    exact ⟨rfl, by go_grown⟩

set_option maxRecDepth 100000 in
theorem lifted (os : Os) (started : os.Started) (H : Type) (enc : TypeId × Value → H) :
    ReturnsInHanded {} Try.checked os 3 .any (Rows.fnExactThroughOfSpec.pre6 enc Try.prog Try.f3 Rows.fnExactThroughOfRow.domain false) (Rows.fnExactThroughOfSpec.post enc Try.prog Try.f3 false true false false) := by
  refine returnsInHanded_of_change (C := Try.checked) own started (by kernel_rfl) Try.func3
    (ChangeSpec.witness6 (enc := enc) (C := Try.checked) false ⟨#[], #[.agg #[.int .i64 0, .int .i64 0, .slice none 0 0], .slice none 0 0], []⟩ 8 (by kernel_rfl) (by kernel_rfl) (by kernel_rfl) (by kernel_rfl)) ?_
  intro W base args ds gs before hval0 hW hcnd _
  have hval : ∀ (j : Nat) t v, Try.f3.params[j]? = some t → args[j]? = some v → Value.okWide Try.prog W .any base t v := hval0
  have hW' := hW
  obtain ⟨p, q, hA0, hV, rfl, hfz, hnd⟩ := hW
  have hA : DataW.TrodAll enc Try.prog W 0 (fun _ => true) true Try.f3.params.toList args.toList ds p := hA0
  rw [Try.params3] at hA hval
  obtain ⟨v0, vs0, d0, ds0, p0, q0, hargs, rfl, rfl, h0, r0⟩ := trodAll_cons hA
  obtain ⟨v1, vs1, d1, ds1, p1, q1, rfl, rfl, rfl, h1, r1⟩ := trodAll_cons r0
  obtain ⟨rfl, rfl, rfl⟩ := trodAll_nil r1
  obtain rfl : args = #[v0, v1] := by cases args; simp_all
  obtain ⟨rfl, rfl⟩ := trodVars_none hV
  have k0 := h0
  have lt0 : ∀ x ∈ p0, x.block < W.heap.size := by obtain ⟨m, hm⟩ := k0; exact DataW.trod_lt m _ _ _ hm
  obtain ⟨n0, m0, y0, z0, rfl, w0⟩ := view_Channel (hval 0 24 v0 rfl rfl) h0
  have k1 := h1
  have lt1 : ∀ x ∈ p1, x.block < W.heap.size := by obtain ⟨m, hm⟩ := k1; exact DataW.trod_lt m _ _ _ hm
  obtain ⟨z1, w1⟩ := view_flts (hval 1 22 v1 rfl rfl) h1
  clear hA0 hval0
  refine (walk n0 m0 y0 z0 v1 z1 W w0 w1).mono fun e W' ⟨he, bel⟩ => ?_
  subst he
  exact ⟨_, rfl, _, _, _, [], _, [], hW', trodAll_mk1 (shut_bool Try.underlying4 _), (trodAll_cons_mk (Below.trod laidOut (by kernel_rfl) (of_decide_eq_true (by kernel_rfl)) k0 bel lt0) (trodAll_cons_mk (Below.trod laidOut (by kernel_rfl) (of_decide_eq_true (by kernel_rfl)) k1 bel lt1) trodAll_mk0)), rfl, bel.frame _, fun h => by cases h⟩

theorem over : Rows.fnExactThroughOfRow.holds Try.pinned (OpenSpec.ofChange Rows.fnExactThroughOfSpec) :=
  OpenClaim.holds_of_wide 3 Try.f3 rfl rfl rfl rfl rfl rfl rfl ⟨rfl, rfl, rfl, rfl, rfl⟩ rfl rfl rfl rfl rfl (by kernel_rfl) Try.func3 (by kernel_rfl)
    (of_decide_eq_true (by kernel_rfl)) (by unfold Func.isWrapper; first | (rw [if_pos (by decide +kernel)]; kernel_rfl) | (rw [if_neg (by decide +kernel)]; exact ⟨rfl, rfl⟩))
    (fun os started H enc _ => lifted os started H enc)

theorem proved : Rows.FnExactThroughOfSaid := over
end Go.Proofs.Yteejcdfmpmcmlaa.fnExactThroughOf
