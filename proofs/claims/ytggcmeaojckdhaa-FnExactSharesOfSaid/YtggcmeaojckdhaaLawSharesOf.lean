/- 'laws.FnExactSharesOf' returns true for all arguments: the program's function and the reference's return the same, and change no argument. No conditions. -/
import Derived.Test.YtggcmeaojckdhaaShfI
import Derived.Test.YtggcmeaojckdhaaState
import Derived.Test.YtggcmeaojckdhaaLaws
import Derived.Test.YtggcmeaojckdhaaFrame
import Derived.Deep.RegionHeld3
import Derived.Handy
import Derived.Test.YtggcmeaojckdhaaSt
namespace Go.Proofs.Ytggcmeaojckdhaa.fnExactSharesOf
open Go.ChangeShapes Go.WideShapes Go.ChangeAt Go.RowKit
set_option maxRecDepth 100000
set_option linter.unusedVariables false
set_option linter.unusedSimpArgs false

set_option maxRecDepth 100000 in
set_option maxHeartbeats 4000000 in
theorem walk (n0 : Int) (v0 : Value) (z0 : List Int) (a1 : Int) (w : World) (h0 : RI w v0 z0) (_h1 : I64 a1) :
    Calls Try.prog 3 #[.agg #[.int .i64 n0, v0], .int .i64 a1] w fun e w' => e = .returned (.bool true) ∧ Below w.heap.size w w' := by
  obtain ⟨ao0, cap0, rfl⟩ := h0.shape
  have hlen0 := h0.len
  by_cases hl0 : z0.length ≤ 1048576
  · go_enter Try.func3, Try.ntmps3
    go_wp2_with fail
    refine (szCounts_any n0 _ z0 _ _ (h0.below (by go_grown)) (by omega) (by omega)).mono ?_; rw [if_neg (by omega)]; rintro e W1 ⟨rfl, b2⟩
    have s1 : St w W1 [((⟨w.heap.size, 0, none⟩ : Addr), Value.int .i64 n0), ((⟨w.heap.size, 1, none⟩ : Addr), Value.slice ao0 z0.length cap0)] [] := ⟨bnext (by go_grown) b2, ⟨cnext b2 (by simp [go_sem]), cnext b2 (by simp [go_sem]), trivial⟩, trivial, fun _ _ _ h => by cases h⟩
    obtain ⟨kc0, kc1, -⟩ := s1.cs
    go_wp2_with fail
    refine (toCounts_any n0 _ z0 _ (h0.below s1.bt) (by omega)).mono ?_; rintro e W3 ⟨t4, rfl, o5, b6⟩
    obtain ⟨ao7, cp8, rfl⟩ := o5.2.rg.shape
    clear kc0 kc1
    have s2 := s1.push b6 o5.2
    obtain ⟨kc0, kc1, -⟩ := s2.cs
    go_wp2_with fail
    refine (specShf_any n0 _ z0 a1 _ (s2.oi (OI.i64 o5) (List.mem_of_getElem? (i := 0) rfl)).ri).mono ?_; rintro e W9 ⟨g11, rfl, o12, b10⟩
    obtain ⟨ao13, cp14, rfl⟩ := o12.2.rg.shape
    clear kc0 kc1
    have s3 := s2.push b10 o12.2
    obtain ⟨kc0, kc1, -⟩ := s3.cs
    clear kc0 kc1
    have s4 := s3.box2 (.int .i64 (shfN n0 z0 a1)) (Value.slice ao13 (shfZ n0 z0 a1).length cp14) 27
    obtain ⟨kc0, kc1, kc2, kc3, -⟩ := s4.cs
    go_wp2_with fail
    refine (toCounts_any n0 _ z0 _ (h0.below s4.bt) (by omega)).mono ?_; rintro e W15 ⟨t16, rfl, o17, b18⟩
    obtain ⟨ao19, cp20, rfl⟩ := o17.2.rg.shape
    clear kc0 kc1 kc2 kc3
    have s5 := s4.push b18 o17.2
    obtain ⟨kc0, kc1, kc2, kc3, -⟩ := s5.cs
    clear kc0 kc1 kc2 kc3
    have s6 := s5.box2 (.int .i64 (n0)) (Value.slice ao19 (z0).length cp20) 30
    obtain ⟨kc0, kc1, kc2, kc3, kc4, kc5, -⟩ := s6.cs
    go_wp2_with fail
    refine (implShf_any n0 _ z0 a1 _ (s6.oi (OI.i64 o17) (List.mem_of_getElem? (i := 0) rfl)).ri).mono ?_; rintro e W21 ⟨g23, rfl, o24, b22⟩
    obtain ⟨ao25, cp26, rfl⟩ := o24.2.rg.shape
    clear kc0 kc1 kc2 kc3 kc4 kc5
    have s7 := s6.push b22 o24.2
    obtain ⟨kc0, kc1, kc2, kc3, kc4, kc5, -⟩ := s7.cs
    clear kc0 kc1 kc2 kc3 kc4 kc5
    have s8 := s7.box2 (.int .i64 (shfN n0 z0 a1)) (Value.slice ao25 (shfZ n0 z0 a1).length cp26) 27
    obtain ⟨kc0, kc1, kc2, kc3, kc4, kc5, kc6, kc7, -⟩ := s8.cs
    go_wp2_with fail
    refine (eqStates_same (shfN n0 z0 a1) _ _ (shfZ n0 z0 a1) _ (s8.oi (OI.i64 o24) (List.mem_of_getElem? (i := 0) rfl)).ri (s8.oi (OI.i64 o12) (List.mem_of_getElem? (i := 2) rfl)).ri).mono ?_; rintro e W28 ⟨rfl, b27⟩
    clear kc0 kc1 kc2 kc3 kc4 kc5 kc6 kc7
    have s9 := s8.below b27
    obtain ⟨kc0, kc1, kc2, kc3, kc4, kc5, kc6, kc7, -⟩ := s9.cs
    go_wp2_with fail
    go_region_held3 (fun W' => W'.cell? (⟨W21.heap.size, 0, none⟩ : Addr) = some (Value.int .i64 (shfN n0 z0 a1)) ∧ W'.cell? (⟨W21.heap.size, 1, none⟩ : Addr) = some ((Value.slice ao25 (shfZ n0 z0 a1).length cp26)) ∧ W'.cell? (⟨W15.heap.size, 0, none⟩ : Addr) = some (Value.int .i64 (n0)) ∧ W'.cell? (⟨W15.heap.size, 1, none⟩ : Addr) = some ((Value.slice ao19 (z0).length cp20)) ∧ W'.cell? (⟨W9.heap.size, 0, none⟩ : Addr) = some (Value.int .i64 (shfN n0 z0 a1)) ∧ W'.cell? (⟨W9.heap.size, 1, none⟩ : Addr) = some ((Value.slice ao13 (shfZ n0 z0 a1).length cp14)) ∧ W'.cell? (⟨w.heap.size, 0, none⟩ : Addr) = some (Value.int .i64 n0) ∧ W'.cell? (⟨w.heap.size, 1, none⟩ : Addr) = some (Value.slice ao0 z0.length cap0) ∧ St w W' [((⟨W21.heap.size, 0, none⟩ : Addr), Value.int .i64 (shfN n0 z0 a1)), ((⟨W21.heap.size, 1, none⟩ : Addr), (Value.slice ao25 (shfZ n0 z0 a1).length cp26)), ((⟨W15.heap.size, 0, none⟩ : Addr), Value.int .i64 (n0)), ((⟨W15.heap.size, 1, none⟩ : Addr), (Value.slice ao19 (z0).length cp20)), ((⟨W9.heap.size, 0, none⟩ : Addr), Value.int .i64 (shfN n0 z0 a1)), ((⟨W9.heap.size, 1, none⟩ : Addr), (Value.slice ao13 (shfZ n0 z0 a1).length cp14)), ((⟨w.heap.size, 0, none⟩ : Addr), Value.int .i64 n0), ((⟨w.heap.size, 1, none⟩ : Addr), Value.slice ao0 z0.length cap0)] [((Value.slice ao25 (shfZ n0 z0 a1).length cp26), (shfZ n0 z0 a1).map (Value.int .i64)), ((Value.slice ao19 (z0).length cp20), (z0).map (Value.int .i64)), ((Value.slice ao13 (shfZ n0 z0 a1).length cp14), (shfZ n0 z0 a1).map (Value.int .i64)), ((Value.slice ao7 (z0).length cp8), (z0).map (Value.int .i64))])
      ((go_split_ands; refine ⟨?_, ?_, ?_, ?_, ?_, ?_, ?_, ?_, ?_⟩ <;> first | assumption | exact cnext (by assumption) (by assumption) | exact St.below (by assumption) (by assumption) | exact St.below (St.drew (by assumption)) (by assumption) | exact St.drew (by assumption) | exact St.drewN (by assumption) _))
      (first
        | (go_at_call 8; with_reducible refine Calls.mono (toCounts_any n0 _ z0 _ ?_ (by omega)) ?_; (exact RI.below (St.bt (ks := [((⟨W21.heap.size, 0, none⟩ : Addr), Value.int .i64 (shfN n0 z0 a1)), ((⟨W21.heap.size, 1, none⟩ : Addr), (Value.slice ao25 (shfZ n0 z0 a1).length cp26)), ((⟨W15.heap.size, 0, none⟩ : Addr), Value.int .i64 (n0)), ((⟨W15.heap.size, 1, none⟩ : Addr), (Value.slice ao19 (z0).length cp20)), ((⟨W9.heap.size, 0, none⟩ : Addr), Value.int .i64 (shfN n0 z0 a1)), ((⟨W9.heap.size, 1, none⟩ : Addr), (Value.slice ao13 (shfZ n0 z0 a1).length cp14)), ((⟨w.heap.size, 0, none⟩ : Addr), Value.int .i64 n0), ((⟨w.heap.size, 1, none⟩ : Addr), Value.slice ao0 z0.length cap0)]) (l := [((Value.slice ao25 (shfZ n0 z0 a1).length cp26), (shfZ n0 z0 a1).map (Value.int .i64)), ((Value.slice ao19 (z0).length cp20), (z0).map (Value.int .i64)), ((Value.slice ao13 (shfZ n0 z0 a1).length cp14), (shfZ n0 z0 a1).map (Value.int .i64)), ((Value.slice ao7 (z0).length cp8), (z0).map (Value.int .i64))]) (by go_split_ands; first | assumption | exact St.drew (by assumption))) h0); rintro e W29 ⟨t30, rfl, o31, b32⟩; have qo31 := OI.shape o31; obtain ⟨ao33, cp34, rfl⟩ := qo31)
        | (go_at_call 11; with_reducible refine Calls.mono (eqCounts_same (n0) _ _ z0 _ ?_ ?_) ?_; (exact OI.ri (St.oi (ks := [((⟨W21.heap.size, 0, none⟩ : Addr), Value.int .i64 (shfN n0 z0 a1)), ((⟨W21.heap.size, 1, none⟩ : Addr), (Value.slice ao25 (shfZ n0 z0 a1).length cp26)), ((⟨W15.heap.size, 0, none⟩ : Addr), Value.int .i64 (n0)), ((⟨W15.heap.size, 1, none⟩ : Addr), (Value.slice ao19 (z0).length cp20)), ((⟨W9.heap.size, 0, none⟩ : Addr), Value.int .i64 (shfN n0 z0 a1)), ((⟨W9.heap.size, 1, none⟩ : Addr), (Value.slice ao13 (shfZ n0 z0 a1).length cp14)), ((⟨w.heap.size, 0, none⟩ : Addr), Value.int .i64 n0), ((⟨w.heap.size, 1, none⟩ : Addr), Value.slice ao0 z0.length cap0)]) (l := [((Value.slice ao25 (shfZ n0 z0 a1).length cp26), (shfZ n0 z0 a1).map (Value.int .i64)), ((Value.slice ao19 (z0).length cp20), (z0).map (Value.int .i64)), ((Value.slice ao13 (shfZ n0 z0 a1).length cp14), (shfZ n0 z0 a1).map (Value.int .i64)), ((Value.slice ao7 (z0).length cp8), (z0).map (Value.int .i64))]) (by go_split_ands; first | assumption | exact St.drew (by assumption)) ((OI.i64 o17)) (List.mem_of_getElem? (i := 1) rfl))); (exact o31.ri); rintro e W35 ⟨rfl, b36⟩))
    have s10 : St w W35 [((⟨W21.heap.size, 0, none⟩ : Addr), Value.int .i64 (shfN n0 z0 a1)), ((⟨W21.heap.size, 1, none⟩ : Addr), (Value.slice ao25 (shfZ n0 z0 a1).length cp26)), ((⟨W15.heap.size, 0, none⟩ : Addr), Value.int .i64 (n0)), ((⟨W15.heap.size, 1, none⟩ : Addr), (Value.slice ao19 (z0).length cp20)), ((⟨W9.heap.size, 0, none⟩ : Addr), Value.int .i64 (shfN n0 z0 a1)), ((⟨W9.heap.size, 1, none⟩ : Addr), (Value.slice ao13 (shfZ n0 z0 a1).length cp14)), ((⟨w.heap.size, 0, none⟩ : Addr), Value.int .i64 n0), ((⟨w.heap.size, 1, none⟩ : Addr), Value.slice ao0 z0.length cap0)] [((Value.slice ao25 (shfZ n0 z0 a1).length cp26), (shfZ n0 z0 a1).map (Value.int .i64)), ((Value.slice ao19 (z0).length cp20), (z0).map (Value.int .i64)), ((Value.slice ao13 (shfZ n0 z0 a1).length cp14), (shfZ n0 z0 a1).map (Value.int .i64)), ((Value.slice ao7 (z0).length cp8), (z0).map (Value.int .i64))] := by go_split_ands; assumption
    clear kc0 kc1 kc2 kc3 kc4 kc5 kc6 kc7
    obtain ⟨kc0, kc1, kc2, kc3, kc4, kc5, kc6, kc7, -⟩ := s10.cs
    go_wp2_with fail
    refine (markCounts_any (n0) _ (z0) _ (1) _ (s10.oi (OI.i64 o17) (List.mem_of_getElem? (i := 1) rfl)) (by omega) (by omega) (by omega)).mono ?_; rintro e W37 ⟨rfl, o38, r39⟩
    clear kc0 kc1 kc2 kc3 kc4 kc5 kc6 kc7
    have s11 : St w W37 [((⟨W21.heap.size, 0, none⟩ : Addr), Value.int .i64 (shfN n0 z0 a1)), ((⟨W21.heap.size, 1, none⟩ : Addr), (Value.slice ao25 (shfZ n0 z0 a1).length cp26)), ((⟨W15.heap.size, 0, none⟩ : Addr), Value.int .i64 (n0)), ((⟨W15.heap.size, 1, none⟩ : Addr), (Value.slice ao19 (z0).length cp20)), ((⟨W9.heap.size, 0, none⟩ : Addr), Value.int .i64 (shfN n0 z0 a1)), ((⟨W9.heap.size, 1, none⟩ : Addr), (Value.slice ao13 (shfZ n0 z0 a1).length cp14)), ((⟨w.heap.size, 0, none⟩ : Addr), Value.int .i64 n0), ((⟨w.heap.size, 1, none⟩ : Addr), Value.slice ao0 z0.length cap0)] [((Value.slice ao25 (shfZ n0 z0 a1).length cp26), (shfZ n0 z0 a1).map (Value.int .i64)), ((Value.slice ao19 (z0).length cp20), ((marks (1) (z0).length)).map (Value.int .i64)), ((Value.slice ao13 (shfZ n0 z0 a1).length cp14), (shfZ n0 z0 a1).map (Value.int .i64)), ((Value.slice ao7 (z0).length cp8), (z0).map (Value.int .i64))] := s10.mark 1 rfl r39 o38.2
    obtain ⟨kc0, kc1, kc2, kc3, kc4, kc5, kc6, kc7, -⟩ := s11.cs
    go_wp2_with fail
    refine (eqStates_same (shfN n0 z0 a1) _ _ (shfZ n0 z0 a1) _ (s11.oi (OI.i64 o24) (List.mem_of_getElem? (i := 0) rfl)).ri (s11.oi (OI.i64 o12) (List.mem_of_getElem? (i := 2) rfl)).ri).mono ?_; rintro e W41 ⟨rfl, b40⟩
    clear kc0 kc1 kc2 kc3 kc4 kc5 kc6 kc7
    have s12 := s11.below b40
    obtain ⟨kc0, kc1, kc2, kc3, kc4, kc5, kc6, kc7, -⟩ := s12.cs
    go_wp2_with fail
    refine (markStates_any (shfN n0 z0 a1) _ (shfZ n0 z0 a1) _ (1) _ (s12.oi (OI.i64 o24) (List.mem_of_getElem? (i := 0) rfl)) (shfZ_len n0 z0 a1) (by omega) (by omega)).mono ?_; rintro e W42 ⟨rfl, o43, r44⟩
    clear kc0 kc1 kc2 kc3 kc4 kc5 kc6 kc7
    have s13 : St w W42 [((⟨W21.heap.size, 0, none⟩ : Addr), Value.int .i64 (shfN n0 z0 a1)), ((⟨W21.heap.size, 1, none⟩ : Addr), (Value.slice ao25 (shfZ n0 z0 a1).length cp26)), ((⟨W15.heap.size, 0, none⟩ : Addr), Value.int .i64 (n0)), ((⟨W15.heap.size, 1, none⟩ : Addr), (Value.slice ao19 (z0).length cp20)), ((⟨W9.heap.size, 0, none⟩ : Addr), Value.int .i64 (shfN n0 z0 a1)), ((⟨W9.heap.size, 1, none⟩ : Addr), (Value.slice ao13 (shfZ n0 z0 a1).length cp14)), ((⟨w.heap.size, 0, none⟩ : Addr), Value.int .i64 n0), ((⟨w.heap.size, 1, none⟩ : Addr), Value.slice ao0 z0.length cap0)] [((Value.slice ao25 (shfZ n0 z0 a1).length cp26), ((marks (1) (shfZ n0 z0 a1).length)).map (Value.int .i64)), ((Value.slice ao19 (z0).length cp20), ((marks (1) (z0).length)).map (Value.int .i64)), ((Value.slice ao13 (shfZ n0 z0 a1).length cp14), (shfZ n0 z0 a1).map (Value.int .i64)), ((Value.slice ao7 (z0).length cp8), (z0).map (Value.int .i64))] := s12.mark 0 rfl r44 o43.2
    obtain ⟨kc0, kc1, kc2, kc3, kc4, kc5, kc6, kc7, -⟩ := s13.cs
    go_wp2_with fail
    refine (heldStates_same (shfN n0 z0 a1) _ (shfZ n0 z0 a1).length (1) _ (s13.oi (OI.i64 o43) (List.mem_of_getElem? (i := 0) rfl)).ri (shfZ_len n0 z0 a1) (by omega) (by omega)).mono ?_; rintro e W45 ⟨rfl, b46⟩
    clear kc0 kc1 kc2 kc3 kc4 kc5 kc6 kc7
    have s14 := s13.below b46
    obtain ⟨kc0, kc1, kc2, kc3, kc4, kc5, kc6, kc7, -⟩ := s14.cs
    go_wp2_with fail
    refine (toCounts_any n0 _ z0 _ (h0.below s14.bt) (by omega)).mono ?_; rintro e W47 ⟨t48, rfl, o49, b50⟩
    obtain ⟨ao51, cp52, rfl⟩ := o49.2.rg.shape
    clear kc0 kc1 kc2 kc3 kc4 kc5 kc6 kc7
    have s15 := s14.push b50 o49.2
    obtain ⟨kc0, kc1, kc2, kc3, kc4, kc5, kc6, kc7, -⟩ := s15.cs
    go_wp2_with fail
    refine (implShf_any n0 _ z0 a1 _ (s15.oi (OI.i64 o49) (List.mem_of_getElem? (i := 0) rfl)).ri).mono ?_; rintro e W53 ⟨g55, rfl, o56, b54⟩
    obtain ⟨ao57, cp58, rfl⟩ := o56.2.rg.shape
    clear kc0 kc1 kc2 kc3 kc4 kc5 kc6 kc7
    have s16 := s15.push b54 o56.2
    obtain ⟨kc0, kc1, kc2, kc3, kc4, kc5, kc6, kc7, -⟩ := s16.cs
    clear kc0 kc1 kc2 kc3 kc4 kc5 kc6 kc7
    have s17 := s16.box2 (.int .i64 (shfN n0 z0 a1)) (Value.slice ao57 (shfZ n0 z0 a1).length cp58) 27
    obtain ⟨kc0, kc1, kc2, kc3, kc4, kc5, kc6, kc7, kc8, kc9, -⟩ := s17.cs
    go_wp2_with fail
    refine (eqStates_same (shfN n0 z0 a1) _ _ (shfZ n0 z0 a1) _ (s17.oi (OI.i64 o56) (List.mem_of_getElem? (i := 0) rfl)).ri (s17.oi (OI.i64 o12) (List.mem_of_getElem? (i := 4) rfl)).ri).mono ?_; rintro e W60 ⟨rfl, b59⟩
    clear kc0 kc1 kc2 kc3 kc4 kc5 kc6 kc7 kc8 kc9
    have s18 := s17.below b59
    obtain ⟨kc0, kc1, kc2, kc3, kc4, kc5, kc6, kc7, kc8, kc9, -⟩ := s18.cs
    go_wp2_with fail
    refine (heldStates_same (shfN n0 z0 a1) _ (shfZ n0 z0 a1).length (1) _ (s18.oi (OI.i64 o43) (List.mem_of_getElem? (i := 2) rfl)).ri (shfZ_len n0 z0 a1) (by omega) (by omega)).mono ?_; rintro e W61 ⟨rfl, b62⟩
    clear kc0 kc1 kc2 kc3 kc4 kc5 kc6 kc7 kc8 kc9
    have s19 := s18.below b62
    obtain ⟨kc0, kc1, kc2, kc3, kc4, kc5, kc6, kc7, kc8, kc9, -⟩ := s19.cs
    go_wp2
    go_ret
    exact ⟨rfl, s19.bt⟩
  · go_enter Try.func3, Try.ntmps3
    go_wp2_with fail
    refine (szCounts_any n0 _ z0 _ _ (h0.below (by go_grown)) (by omega) (by omega)).mono ?_; rw [if_pos (by omega)]; rintro e W63 ⟨rfl, b64⟩
    have s20 : St w W63 [((⟨w.heap.size, 0, none⟩ : Addr), Value.int .i64 n0), ((⟨w.heap.size, 1, none⟩ : Addr), Value.slice ao0 z0.length cap0)] [] := ⟨bnext (by go_grown) b64, ⟨cnext b64 (by simp [go_sem]), cnext b64 (by simp [go_sem]), trivial⟩, trivial, fun _ _ _ h => by cases h⟩
    obtain ⟨kc0, kc1, -⟩ := s20.cs
    go_wp2
    go_ret
    exact ⟨rfl, s20.bt⟩

set_option maxRecDepth 100000 in
theorem lifted (os : Os) (started : os.Started) (H : Type) (enc : TypeId × Value → H) :
    ReturnsInHanded {} Try.checked os 3 .any (Rows.fnExactSharesOfSpec.pre6 enc Try.prog Try.f3 Rows.fnExactSharesOfRow.domain false) (Rows.fnExactSharesOfSpec.post enc Try.prog Try.f3 false true false false) := by
  refine returnsInHanded_of_change (C := Try.checked) own started (by kernel_rfl) Try.func3
    (ChangeSpec.witness6 (enc := enc) (C := Try.checked) false ⟨#[], #[.agg #[.int .i64 0, .slice none 0 0], .int .i64 0], []⟩ 8 (by kernel_rfl) (by kernel_rfl) (by kernel_rfl) (by kernel_rfl)) ?_
  intro W base args ds gs before hval0 hW hcnd _
  have hval : ∀ (j : Nat) t v, Try.f3.params[j]? = some t → args[j]? = some v → Value.okWide Try.prog W .any base t v := hval0
  have hW' := hW
  obtain ⟨p, q, hA0, hV, rfl, hfz, hnd⟩ := hW
  have hA : DataW.TrodAll enc Try.prog W 0 (fun _ => true) true Try.f3.params.toList args.toList ds p := hA0
  rw [Try.params3] at hA hval
  obtain ⟨v0, vs0, d0, ds0, p0, q0, hargs, rfl, rfl, h0, r0⟩ := trodAll_cons hA
  obtain ⟨v1, vs1, d1, ds1, p1, q1, rfl, rfl, rfl, h1, r1⟩ := trodAll_cons r0
  obtain ⟨rfl, rfl, rfl⟩ := trodAll_nil r1
  obtain rfl : args = #[v0, v1] := by cases args; simp_all
  obtain ⟨rfl, rfl⟩ := trodVars_none hV
  have k0 := h0
  have lt0 : ∀ x ∈ p0, x.block < W.heap.size := by obtain ⟨m, hm⟩ := k0; exact DataW.trod_lt m _ _ _ hm
  obtain ⟨n0, y0, z0, rfl, w0⟩ := view_Counts (hval 0 24 v0 rfl rfl) h0
  obtain ⟨a1, rfl, rfl, rfl, u1⟩ := open_int Try.underlying2 (hval 1 2 v1 rfl rfl) h1; have w1 := i64_of_wf u1
  clear hA0 hval0
  refine (walk n0 y0 z0 a1 W w0 w1).mono fun e W' ⟨he, bel⟩ => ?_
  subst he
  exact ⟨_, rfl, _, _, _, [], _, [], hW', trodAll_mk1 (shut_bool Try.underlying4 _), (trodAll_cons_mk (Below.trod laidOut (by kernel_rfl) (of_decide_eq_true (by kernel_rfl)) k0 bel lt0) (trodAll_cons_mk (shut_int Try.underlying2 u1) trodAll_mk0)), rfl, bel.frame _, fun h => by cases h⟩

theorem over : Rows.fnExactSharesOfRow.holds Try.pinned (OpenSpec.ofChange Rows.fnExactSharesOfSpec) :=
  OpenClaim.holds_of_wide 3 Try.f3 rfl rfl rfl rfl rfl rfl rfl ⟨rfl, rfl, rfl, rfl, rfl⟩ rfl rfl rfl rfl rfl (by kernel_rfl) Try.func3 (by kernel_rfl)
    (of_decide_eq_true (by kernel_rfl)) (by unfold Func.isWrapper; first | (rw [if_pos (by decide +kernel)]; kernel_rfl) | (rw [if_neg (by decide +kernel)]; exact ⟨rfl, rfl⟩))
    (fun os started H enc _ => lifted os started H enc)

theorem proved : Rows.FnExactSharesOfSaid := over
end Go.Proofs.Ytggcmeaojckdhaa.fnExactSharesOf
