/- 'laws.FnExactRangeText' returns true for all arguments: the program's function and the reference's return the same, and change no argument. No conditions. -/
import Derived.Test.YtnemfdiagejboaaRngU
import Derived.Test.YtnemfdiagejboaaState
import Derived.Test.YtnemfdiagejboaaLaws
import Derived.Test.YtnemfdiagejboaaFrame
import Derived.Test.YtnemfdiagejboaaLawsB
import Derived.Deep.RegionHeld3
import Derived.Handy
import Derived.Test.YtnemfdiagejboaaSt
namespace Go.Proofs.Ytnemfdiagejboaa.fnExactRangeText
open Go.ChangeShapes Go.WideShapes Go.ChangeAt Go.RowKit
set_option maxRecDepth 100000
set_option linter.unusedVariables false
set_option linter.unusedSimpArgs false

set_option maxRecDepth 100000 in
set_option maxHeartbeats 4000000 in
theorem walk (n0 : Int) (v0 : Value) (z0 : List Int) (v1 : Value) (z1 : List Bool) (a2 : Int) (w : World) (h0 : RI w v0 z0) (h1 : Rg Value.bool w v1 z1) (_h2 : I64 a2) :
    Calls Try.prog 4 #[.agg #[.int .i64 n0, v0], v1, .int .i64 a2] w fun e w' => e = .returned (.bool true) ∧ Below w.heap.size w w' := by
  obtain ⟨ao0, cap0, rfl⟩ := h0.shape
  have hlen0 := h0.len
  obtain ⟨ao1, cap1, rfl⟩ := h1.shape
  have hlen1 := h1.len
  by_cases hl0 : z1.length ≤ 1048576
  · by_cases hl1 : z0.length ≤ 1048576
    · go_enter Try.func4, Try.ntmps4
      go_wp2_with fail
      refine (szCounts_any n0 _ z0 _ _ (h0.below (by go_grown)) (by omega) (by omega)).mono ?_; rw [if_neg (by omega)]; rintro e W1 ⟨rfl, b2⟩
      have s1 : St w W1 [((⟨w.heap.size, 0, none⟩ : Addr), Value.int .i64 n0), ((⟨w.heap.size, 1, none⟩ : Addr), Value.slice ao0 z0.length cap0)] [] := ⟨bnext (by go_grown) b2, ⟨cnext b2 (by simp [go_sem]), cnext b2 (by simp [go_sem]), trivial⟩, trivial, fun _ _ _ h => by cases h⟩
      obtain ⟨kc0, kc1, -⟩ := s1.cs
      go_wp2_with fail
      refine (toCounts_any n0 _ z0 _ (h0.below s1.bt) (by omega)).mono ?_; rintro e W3 ⟨t4, rfl, o5, b6⟩
      obtain ⟨ao7, cp8, rfl⟩ := o5.2.rg.shape
      clear kc0 kc1
      have s2 := s1.push b6 o5.2
      obtain ⟨kc0, kc1, -⟩ := s2.cs
      go_wp2_with fail
      refine (toB_any _ z1 _ (h1.below s2.bt) (by omega)).mono ?_; rintro e W9 ⟨t10, rfl, o11, b12⟩
      clear kc0 kc1
      have s3 := s2.push b12 o11
      obtain ⟨kc0, kc1, -⟩ := s3.cs
      go_wp2_with fail
      refine (specRxt_any n0 _ z0 _ z1 a2 _ (s3.oi (OI.i64 o5) (List.mem_of_getElem? (i := 1) rfl)).ri (s3.ob (List.mem_of_getElem? (i := 0) rfl)).rg).mono ?_; rintro e W13 ⟨g15, rfl, o16, b14⟩
      clear kc0 kc1
      have s4 := s3.push b14 o16.2
      obtain ⟨kc0, kc1, -⟩ := s4.cs
      go_wp2_with fail
      refine (toCounts_any n0 _ z0 _ (h0.below s4.bt) (by omega)).mono ?_; rintro e W17 ⟨t18, rfl, o19, b20⟩
      obtain ⟨ao21, cp22, rfl⟩ := o19.2.rg.shape
      clear kc0 kc1
      have s5 := s4.push b20 o19.2
      obtain ⟨kc0, kc1, -⟩ := s5.cs
      clear kc0 kc1
      have s6 := s5.box2 (.int .i64 (n0)) (Value.slice ao21 (z0).length cp22) 29
      obtain ⟨kc0, kc1, kc2, kc3, -⟩ := s6.cs
      go_wp2_with fail
      refine (toB_any _ z1 _ (h1.below s6.bt) (by omega)).mono ?_; rintro e W23 ⟨t24, rfl, o25, b26⟩
      clear kc0 kc1 kc2 kc3
      have s7 := s6.push b26 o25
      obtain ⟨kc0, kc1, kc2, kc3, -⟩ := s7.cs
      go_wp2_with fail
      refine (implRxt_any n0 _ z0 _ z1 a2 _ (s7.oi (OI.i64 o19) (List.mem_of_getElem? (i := 1) rfl)).ri (s7.ob (List.mem_of_getElem? (i := 0) rfl)).rg).mono ?_; rintro e W27 ⟨g29, rfl, o30, b28⟩
      clear kc0 kc1 kc2 kc3
      have s8 := s7.push b28 o30.2
      obtain ⟨kc0, kc1, kc2, kc3, -⟩ := s8.cs
      go_wp2_with fail
      refine (eq_same _ _ (rxZ n0 z0 z1 a2) _ (s8.oi (OI.i64 o30) (List.mem_of_getElem? (i := 0) rfl)).ri (s8.oi (OI.i64 o16) (List.mem_of_getElem? (i := 3) rfl)).ri).mono ?_; rintro e W33 ⟨rfl, d32, hdd32⟩
      have s9 : St w W33 [((⟨W17.heap.size, 0, none⟩ : Addr), Value.int .i64 (n0)), ((⟨W17.heap.size, 1, none⟩ : Addr), (Value.slice ao21 (z0).length cp22)), ((⟨w.heap.size, 0, none⟩ : Addr), Value.int .i64 n0), ((⟨w.heap.size, 1, none⟩ : Addr), Value.slice ao0 z0.length cap0)] [(g29, (rxZ n0 z0 z1 a2).map (Value.int .i64)), (t24, (z1).map Value.bool), ((Value.slice ao21 (z0).length cp22), (z0).map (Value.int .i64)), (g15, (rxZ n0 z0 z1 a2).map (Value.int .i64)), (t10, (z1).map Value.bool), ((Value.slice ao7 (z0).length cp8), (z0).map (Value.int .i64))] := by rw [hdd32]; exact s8.drewN d32
      clear hdd32
      clear kc0 kc1 kc2 kc3
      obtain ⟨kc0, kc1, kc2, kc3, -⟩ := s9.cs
      go_wp2_with fail
      go_region_held3 (fun W' => W'.cell? (⟨W17.heap.size, 0, none⟩ : Addr) = some (Value.int .i64 (n0)) ∧ W'.cell? (⟨W17.heap.size, 1, none⟩ : Addr) = some ((Value.slice ao21 (z0).length cp22)) ∧ W'.cell? (⟨w.heap.size, 0, none⟩ : Addr) = some (Value.int .i64 n0) ∧ W'.cell? (⟨w.heap.size, 1, none⟩ : Addr) = some (Value.slice ao0 z0.length cap0) ∧ St w W' [((⟨W17.heap.size, 0, none⟩ : Addr), Value.int .i64 (n0)), ((⟨W17.heap.size, 1, none⟩ : Addr), (Value.slice ao21 (z0).length cp22)), ((⟨w.heap.size, 0, none⟩ : Addr), Value.int .i64 n0), ((⟨w.heap.size, 1, none⟩ : Addr), Value.slice ao0 z0.length cap0)] [(g29, (rxZ n0 z0 z1 a2).map (Value.int .i64)), (t24, (z1).map Value.bool), ((Value.slice ao21 (z0).length cp22), (z0).map (Value.int .i64)), (g15, (rxZ n0 z0 z1 a2).map (Value.int .i64)), (t10, (z1).map Value.bool), ((Value.slice ao7 (z0).length cp8), (z0).map (Value.int .i64))])
        ((go_split_ands; refine ⟨?_, ?_, ?_, ?_, ?_⟩ <;> first | assumption | exact cnext (by assumption) (by assumption) | exact St.below (by assumption) (by assumption) | exact St.below (St.drew (by assumption)) (by assumption) | exact St.drew (by assumption) | exact St.drewN (by assumption) _))
        (first
          | (go_at_call 9; with_reducible refine Calls.mono (toCounts_any n0 _ z0 _ ?_ (by omega)) ?_; (exact RI.below (St.bt (ks := [((⟨W17.heap.size, 0, none⟩ : Addr), Value.int .i64 (n0)), ((⟨W17.heap.size, 1, none⟩ : Addr), (Value.slice ao21 (z0).length cp22)), ((⟨w.heap.size, 0, none⟩ : Addr), Value.int .i64 n0), ((⟨w.heap.size, 1, none⟩ : Addr), Value.slice ao0 z0.length cap0)]) (l := [(g29, (rxZ n0 z0 z1 a2).map (Value.int .i64)), (t24, (z1).map Value.bool), ((Value.slice ao21 (z0).length cp22), (z0).map (Value.int .i64)), (g15, (rxZ n0 z0 z1 a2).map (Value.int .i64)), (t10, (z1).map Value.bool), ((Value.slice ao7 (z0).length cp8), (z0).map (Value.int .i64))]) (by go_split_ands; first | assumption | exact St.drew (by assumption))) h0); rintro e W34 ⟨t35, rfl, o36, b37⟩; have qo36 := OI.shape o36; obtain ⟨ao38, cp39, rfl⟩ := qo36)
          | (go_at_call 13; with_reducible refine Calls.mono (eqCounts_same (n0) _ _ z0 _ ?_ ?_) ?_; (exact OI.ri (St.oi (ks := [((⟨W17.heap.size, 0, none⟩ : Addr), Value.int .i64 (n0)), ((⟨W17.heap.size, 1, none⟩ : Addr), (Value.slice ao21 (z0).length cp22)), ((⟨w.heap.size, 0, none⟩ : Addr), Value.int .i64 n0), ((⟨w.heap.size, 1, none⟩ : Addr), Value.slice ao0 z0.length cap0)]) (l := [(g29, (rxZ n0 z0 z1 a2).map (Value.int .i64)), (t24, (z1).map Value.bool), ((Value.slice ao21 (z0).length cp22), (z0).map (Value.int .i64)), (g15, (rxZ n0 z0 z1 a2).map (Value.int .i64)), (t10, (z1).map Value.bool), ((Value.slice ao7 (z0).length cp8), (z0).map (Value.int .i64))]) (by go_split_ands; first | assumption | exact St.drew (by assumption)) ((OI.i64 o19)) (List.mem_of_getElem? (i := 2) rfl))); (exact o36.ri); rintro e W40 ⟨rfl, b41⟩))
      have s10 : St w W40 [((⟨W17.heap.size, 0, none⟩ : Addr), Value.int .i64 (n0)), ((⟨W17.heap.size, 1, none⟩ : Addr), (Value.slice ao21 (z0).length cp22)), ((⟨w.heap.size, 0, none⟩ : Addr), Value.int .i64 n0), ((⟨w.heap.size, 1, none⟩ : Addr), Value.slice ao0 z0.length cap0)] [(g29, (rxZ n0 z0 z1 a2).map (Value.int .i64)), (t24, (z1).map Value.bool), ((Value.slice ao21 (z0).length cp22), (z0).map (Value.int .i64)), (g15, (rxZ n0 z0 z1 a2).map (Value.int .i64)), (t10, (z1).map Value.bool), ((Value.slice ao7 (z0).length cp8), (z0).map (Value.int .i64))] := by go_split_ands; assumption
      clear kc0 kc1 kc2 kc3
      obtain ⟨kc0, kc1, kc2, kc3, -⟩ := s10.cs
      go_wp2_with fail
      refine (toB_any _ z1 _ (h1.below s10.bt) (by omega)).mono ?_; rintro e W42 ⟨t43, rfl, o44, b45⟩
      clear kc0 kc1 kc2 kc3
      have s11 := s10.push b45 o44
      obtain ⟨kc0, kc1, kc2, kc3, -⟩ := s11.cs
      go_wp2_with fail
      refine (eqB_same _ _ (z1) _ (s11.ob (List.mem_of_getElem? (i := 2) rfl)).rg (s11.ob (List.mem_of_getElem? (i := 0) rfl)).rg).mono ?_; rintro e W48 ⟨rfl, d47, hdd47⟩
      have s12 : St w W48 [((⟨W17.heap.size, 0, none⟩ : Addr), Value.int .i64 (n0)), ((⟨W17.heap.size, 1, none⟩ : Addr), (Value.slice ao21 (z0).length cp22)), ((⟨w.heap.size, 0, none⟩ : Addr), Value.int .i64 n0), ((⟨w.heap.size, 1, none⟩ : Addr), Value.slice ao0 z0.length cap0)] [(t43, (z1).map Value.bool), (g29, (rxZ n0 z0 z1 a2).map (Value.int .i64)), (t24, (z1).map Value.bool), ((Value.slice ao21 (z0).length cp22), (z0).map (Value.int .i64)), (g15, (rxZ n0 z0 z1 a2).map (Value.int .i64)), (t10, (z1).map Value.bool), ((Value.slice ao7 (z0).length cp8), (z0).map (Value.int .i64))] := by rw [hdd47]; exact s11.drewN d47
      clear hdd47
      clear kc0 kc1 kc2 kc3
      obtain ⟨kc0, kc1, kc2, kc3, -⟩ := s12.cs
      go_wp2_with fail
      refine (markCounts_any (n0) _ (z0) _ (1) _ (s12.oi (OI.i64 o19) (List.mem_of_getElem? (i := 3) rfl)) (by omega) (by omega) (by omega)).mono ?_; rintro e W49 ⟨rfl, o50, r51⟩
      clear kc0 kc1 kc2 kc3
      have s13 : St w W49 [((⟨W17.heap.size, 0, none⟩ : Addr), Value.int .i64 (n0)), ((⟨W17.heap.size, 1, none⟩ : Addr), (Value.slice ao21 (z0).length cp22)), ((⟨w.heap.size, 0, none⟩ : Addr), Value.int .i64 n0), ((⟨w.heap.size, 1, none⟩ : Addr), Value.slice ao0 z0.length cap0)] [(t43, (z1).map Value.bool), (g29, (rxZ n0 z0 z1 a2).map (Value.int .i64)), (t24, (z1).map Value.bool), ((Value.slice ao21 (z0).length cp22), ((marks (1) (z0).length)).map (Value.int .i64)), (g15, (rxZ n0 z0 z1 a2).map (Value.int .i64)), (t10, (z1).map Value.bool), ((Value.slice ao7 (z0).length cp8), (z0).map (Value.int .i64))] := s12.mark 3 rfl r51 o50.2
      obtain ⟨kc0, kc1, kc2, kc3, -⟩ := s13.cs
      go_wp2_with fail
      refine (markB_any _ (z1) _ (1 + ((z0).length : Int)) _ (s13.ob (List.mem_of_getElem? (i := 2) rfl)) (by omega) (by omega) (by omega)).mono ?_; rintro e W52 ⟨rfl, o53, r54⟩
      clear kc0 kc1 kc2 kc3
      have s14 : St w W52 [((⟨W17.heap.size, 0, none⟩ : Addr), Value.int .i64 (n0)), ((⟨W17.heap.size, 1, none⟩ : Addr), (Value.slice ao21 (z0).length cp22)), ((⟨w.heap.size, 0, none⟩ : Addr), Value.int .i64 n0), ((⟨w.heap.size, 1, none⟩ : Addr), Value.slice ao0 z0.length cap0)] [(t43, (z1).map Value.bool), (g29, (rxZ n0 z0 z1 a2).map (Value.int .i64)), (t24, ((marksB (1 + ((z0).length : Int)) (z1).length)).map Value.bool), ((Value.slice ao21 (z0).length cp22), ((marks (1) (z0).length)).map (Value.int .i64)), (g15, (rxZ n0 z0 z1 a2).map (Value.int .i64)), (t10, (z1).map Value.bool), ((Value.slice ao7 (z0).length cp8), (z0).map (Value.int .i64))] := s13.mark 2 rfl r54 o53
      obtain ⟨kc0, kc1, kc2, kc3, -⟩ := s14.cs
      go_wp2_with fail
      refine (eq_same _ _ (rxZ n0 z0 z1 a2) _ (s14.oi (OI.i64 o30) (List.mem_of_getElem? (i := 1) rfl)).ri (s14.oi (OI.i64 o16) (List.mem_of_getElem? (i := 4) rfl)).ri).mono ?_; rintro e W57 ⟨rfl, d56, hdd56⟩
      have s15 : St w W57 [((⟨W17.heap.size, 0, none⟩ : Addr), Value.int .i64 (n0)), ((⟨W17.heap.size, 1, none⟩ : Addr), (Value.slice ao21 (z0).length cp22)), ((⟨w.heap.size, 0, none⟩ : Addr), Value.int .i64 n0), ((⟨w.heap.size, 1, none⟩ : Addr), Value.slice ao0 z0.length cap0)] [(t43, (z1).map Value.bool), (g29, (rxZ n0 z0 z1 a2).map (Value.int .i64)), (t24, ((marksB (1 + ((z0).length : Int)) (z1).length)).map Value.bool), ((Value.slice ao21 (z0).length cp22), ((marks (1) (z0).length)).map (Value.int .i64)), (g15, (rxZ n0 z0 z1 a2).map (Value.int .i64)), (t10, (z1).map Value.bool), ((Value.slice ao7 (z0).length cp8), (z0).map (Value.int .i64))] := by rw [hdd56]; exact s14.drewN d56
      clear hdd56
      clear kc0 kc1 kc2 kc3
      obtain ⟨kc0, kc1, kc2, kc3, -⟩ := s15.cs
      go_wp2_with fail
      refine (mark_any _ (rxZ n0 z0 z1 a2) _ (1) _ (s15.oi (OI.i64 o30) (List.mem_of_getElem? (i := 1) rfl)) (rxZ_len n0 z0 z1 a2) (by omega) (by omega)).mono ?_; rintro e W58 ⟨rfl, o59, r60⟩
      clear kc0 kc1 kc2 kc3
      have s16 : St w W58 [((⟨W17.heap.size, 0, none⟩ : Addr), Value.int .i64 (n0)), ((⟨W17.heap.size, 1, none⟩ : Addr), (Value.slice ao21 (z0).length cp22)), ((⟨w.heap.size, 0, none⟩ : Addr), Value.int .i64 n0), ((⟨w.heap.size, 1, none⟩ : Addr), Value.slice ao0 z0.length cap0)] [(t43, (z1).map Value.bool), (g29, ((marks (1) (rxZ n0 z0 z1 a2).length)).map (Value.int .i64)), (t24, ((marksB (1 + ((z0).length : Int)) (z1).length)).map Value.bool), ((Value.slice ao21 (z0).length cp22), ((marks (1) (z0).length)).map (Value.int .i64)), (g15, (rxZ n0 z0 z1 a2).map (Value.int .i64)), (t10, (z1).map Value.bool), ((Value.slice ao7 (z0).length cp8), (z0).map (Value.int .i64))] := s15.mark 1 rfl r60 o59.2
      obtain ⟨kc0, kc1, kc2, kc3, -⟩ := s16.cs
      go_wp2_with fail
      refine (held_same _ (rxZ n0 z0 z1 a2).length (1) _ (s16.oi (OI.i64 o59) (List.mem_of_getElem? (i := 1) rfl)).ri (rxZ_len n0 z0 z1 a2) (by omega) (by omega)).mono ?_; rintro e _ ⟨rfl, rfl⟩
      go_wp2_with fail
      refine (toCounts_any n0 _ z0 _ (h0.below s16.bt) (by omega)).mono ?_; rintro e W63 ⟨t64, rfl, o65, b66⟩
      obtain ⟨ao67, cp68, rfl⟩ := o65.2.rg.shape
      clear kc0 kc1 kc2 kc3
      have s17 := s16.push b66 o65.2
      obtain ⟨kc0, kc1, kc2, kc3, -⟩ := s17.cs
      go_wp2_with fail
      refine (toB_any _ z1 _ (h1.below s17.bt) (by omega)).mono ?_; rintro e W69 ⟨t70, rfl, o71, b72⟩
      clear kc0 kc1 kc2 kc3
      have s18 := s17.push b72 o71
      obtain ⟨kc0, kc1, kc2, kc3, -⟩ := s18.cs
      go_wp2_with fail
      refine (implRxt_any n0 _ z0 _ z1 a2 _ (s18.oi (OI.i64 o65) (List.mem_of_getElem? (i := 1) rfl)).ri (s18.ob (List.mem_of_getElem? (i := 0) rfl)).rg).mono ?_; rintro e W73 ⟨g75, rfl, o76, b74⟩
      clear kc0 kc1 kc2 kc3
      have s19 := s18.push b74 o76.2
      obtain ⟨kc0, kc1, kc2, kc3, -⟩ := s19.cs
      go_wp2_with fail
      refine (eq_same _ _ (rxZ n0 z0 z1 a2) _ (s19.oi (OI.i64 o76) (List.mem_of_getElem? (i := 0) rfl)).ri (s19.oi (OI.i64 o16) (List.mem_of_getElem? (i := 7) rfl)).ri).mono ?_; rintro e W79 ⟨rfl, d78, hdd78⟩
      have s20 : St w W79 [((⟨W17.heap.size, 0, none⟩ : Addr), Value.int .i64 (n0)), ((⟨W17.heap.size, 1, none⟩ : Addr), (Value.slice ao21 (z0).length cp22)), ((⟨w.heap.size, 0, none⟩ : Addr), Value.int .i64 n0), ((⟨w.heap.size, 1, none⟩ : Addr), Value.slice ao0 z0.length cap0)] [(g75, (rxZ n0 z0 z1 a2).map (Value.int .i64)), (t70, (z1).map Value.bool), ((Value.slice ao67 (z0).length cp68), (z0).map (Value.int .i64)), (t43, (z1).map Value.bool), (g29, ((marks (1) (rxZ n0 z0 z1 a2).length)).map (Value.int .i64)), (t24, ((marksB (1 + ((z0).length : Int)) (z1).length)).map Value.bool), ((Value.slice ao21 (z0).length cp22), ((marks (1) (z0).length)).map (Value.int .i64)), (g15, (rxZ n0 z0 z1 a2).map (Value.int .i64)), (t10, (z1).map Value.bool), ((Value.slice ao7 (z0).length cp8), (z0).map (Value.int .i64))] := by rw [hdd78]; exact s19.drewN d78
      clear hdd78
      clear kc0 kc1 kc2 kc3
      obtain ⟨kc0, kc1, kc2, kc3, -⟩ := s20.cs
      go_wp2_with fail
      refine (held_same _ (rxZ n0 z0 z1 a2).length (1) _ (s20.oi (OI.i64 o59) (List.mem_of_getElem? (i := 4) rfl)).ri (rxZ_len n0 z0 z1 a2) (by omega) (by omega)).mono ?_; rintro e _ ⟨rfl, rfl⟩
      go_wp2
      go_ret
      exact ⟨rfl, s20.bt⟩
    · go_enter Try.func4, Try.ntmps4
      go_wp2_with fail
      refine (szCounts_any n0 _ z0 _ _ (h0.below (by go_grown)) (by omega) (by omega)).mono ?_; rw [if_pos (by omega)]; rintro e W82 ⟨rfl, b83⟩
      have s21 : St w W82 [((⟨w.heap.size, 0, none⟩ : Addr), Value.int .i64 n0), ((⟨w.heap.size, 1, none⟩ : Addr), Value.slice ao0 z0.length cap0)] [] := ⟨bnext (by go_grown) b83, ⟨cnext b83 (by simp [go_sem]), cnext b83 (by simp [go_sem]), trivial⟩, trivial, fun _ _ _ h => by cases h⟩
      obtain ⟨kc0, kc1, -⟩ := s21.cs
      go_wp2
      go_ret
      exact ⟨rfl, s21.bt⟩
  · go_enter Try.func4, Try.ntmps4
    go_wp2
    go_ret
    exact ⟨rfl, by go_grown⟩

set_option maxRecDepth 100000 in
theorem lifted (os : Os) (started : os.Started) (H : Type) (enc : TypeId × Value → H) :
    ReturnsInHanded {} Try.checked os 4 .any (Rows.fnExactRangeTextSpec.pre6 enc Try.prog Try.f4 Rows.fnExactRangeTextRow.domain false) (Rows.fnExactRangeTextSpec.post enc Try.prog Try.f4 false true false false) := by
  refine returnsInHanded_of_change (C := Try.checked) own started (by kernel_rfl) Try.func4
    (ChangeSpec.witness6 (enc := enc) (C := Try.checked) false ⟨#[], #[.agg #[.int .i64 0, .slice none 0 0], .slice none 0 0, .int .i64 0], []⟩ 8 (by kernel_rfl) (by kernel_rfl) (by kernel_rfl) (by kernel_rfl)) ?_
  intro W base args ds gs before hval0 hW hcnd _
  have hval : ∀ (j : Nat) t v, Try.f4.params[j]? = some t → args[j]? = some v → Value.okWide Try.prog W .any base t v := hval0
  have hW' := hW
  obtain ⟨p, q, hA0, hV, rfl, hfz, hnd⟩ := hW
  have hA : DataW.TrodAll enc Try.prog W 0 (fun _ => true) true Try.f4.params.toList args.toList ds p := hA0
  rw [Try.params4] at hA hval
  obtain ⟨v0, vs0, d0, ds0, p0, q0, hargs, rfl, rfl, h0, r0⟩ := trodAll_cons hA
  obtain ⟨v1, vs1, d1, ds1, p1, q1, rfl, rfl, rfl, h1, r1⟩ := trodAll_cons r0
  obtain ⟨v2, vs2, d2, ds2, p2, q2, rfl, rfl, rfl, h2, r2⟩ := trodAll_cons r1
  obtain ⟨rfl, rfl, rfl⟩ := trodAll_nil r2
  obtain rfl : args = #[v0, v1, v2] := by cases args; simp_all
  obtain ⟨rfl, rfl⟩ := trodVars_none hV
  have k0 := h0
  have lt0 : ∀ x ∈ p0, x.block < W.heap.size := by obtain ⟨m, hm⟩ := k0; exact DataW.trod_lt m _ _ _ hm
  obtain ⟨n0, y0, z0, rfl, w0⟩ := view_Counts (hval 0 24 v0 rfl rfl) h0
  have k1 := h1
  have lt1 : ∀ x ∈ p1, x.block < W.heap.size := by obtain ⟨m, hm⟩ := k1; exact DataW.trod_lt m _ _ _ hm
  obtain ⟨z1, w1⟩ := view_bools (hval 1 26 v1 rfl rfl) h1
  obtain ⟨a2, rfl, rfl, rfl, u2⟩ := open_int Try.underlying2 (hval 2 2 v2 rfl rfl) h2; have w2 := i64_of_wf u2
  clear hA0 hval0
  refine (walk n0 y0 z0 v1 z1 a2 W w0 w1 w2).mono fun e W' ⟨he, bel⟩ => ?_
  subst he
  exact ⟨_, rfl, _, _, _, [], _, [], hW', trodAll_mk1 (shut_bool Try.underlying4 _), (trodAll_cons_mk (Below.trod laidOut (by kernel_rfl) (of_decide_eq_true (by kernel_rfl)) k0 bel lt0) (trodAll_cons_mk (Below.trod laidOut (by kernel_rfl) (of_decide_eq_true (by kernel_rfl)) k1 bel lt1) (trodAll_cons_mk (shut_int Try.underlying2 u2) trodAll_mk0))), rfl, bel.frame _, fun h => by cases h⟩

theorem over : Rows.fnExactRangeTextRow.holds Try.pinned (OpenSpec.ofChange Rows.fnExactRangeTextSpec) :=
  OpenClaim.holds_of_wide 4 Try.f4 rfl rfl rfl rfl rfl rfl rfl ⟨rfl, rfl, rfl, rfl, rfl⟩ rfl rfl rfl rfl rfl (by kernel_rfl) Try.func4 (by kernel_rfl)
    (of_decide_eq_true (by kernel_rfl)) (by unfold Func.isWrapper; first | (rw [if_pos (by decide +kernel)]; kernel_rfl) | (rw [if_neg (by decide +kernel)]; exact ⟨rfl, rfl⟩))
    (fun os started H enc _ => lifted os started H enc)

theorem proved : Rows.FnExactRangeTextSaid := over
end Go.Proofs.Ytnemfdiagejboaa.fnExactRangeText
