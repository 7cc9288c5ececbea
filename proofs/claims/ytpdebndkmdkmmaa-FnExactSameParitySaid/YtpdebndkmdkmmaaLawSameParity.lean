/- 'laws.FnExactSameParity' returns true for all arguments: the program's function and the reference's return the same, and change no argument. No conditions. -/
import Derived.Test.YtpdebndkmdkmmaaSame
import Derived.Test.YtpdebndkmdkmmaaState
import Derived.Test.YtpdebndkmdkmmaaLaws
import Derived.Test.YtpdebndkmdkmmaaFrame
import Derived.Deep.RegionHeld3
import Derived.Handy
import Derived.Test.YtpdebndkmdkmmaaSt
namespace Go.Proofs.Ytpdebndkmdkmmaa.fnExactSameParity
open Go.ChangeShapes Go.WideShapes Go.ChangeAt Go.RowKit
set_option linter.unusedVariables false
set_option linter.unusedSimpArgs false

set_option maxRecDepth 100000 in
set_option maxHeartbeats 4000000 in
theorem walk (n0 : Int) (v0 : Value) (z0 : List Int) (n1 : Int) (v1 : Value) (z1 : List Int) (w : World) (h0 : RI w v0 z0) (h1 : RI w v1 z1) :
    Calls Try.prog 6 #[.agg #[.int .i64 n0, v0], .agg #[.int .i64 n1, v1]] w fun e w' => e = .returned (.bool true) ∧ Below w.heap.size w w' := by
  obtain ⟨ao0, cap0, rfl⟩ := h0.shape
  have hlen0 := h0.len
  obtain ⟨ao1, cap1, rfl⟩ := h1.shape
  have hlen1 := h1.len
  by_cases hl0 : z0.length ≤ 1048576
  · by_cases hl1 : z1.length ≤ 1048576 - z0.length
    · go_enter Try.func6, Try.ntmps6
      go_wp2_with fail
      refine (szParity_any n0 _ z0 _ _ (h0.below (by go_grown)) (by omega) (by omega)).mono ?_; rw [if_neg (by omega)]; rintro e W1 ⟨rfl, b2⟩
      have s1 : St w W1 [((⟨w.heap.size, 0, none⟩ : Addr), Value.int .i64 n0), ((⟨w.heap.size, 1, none⟩ : Addr), Value.slice ao0 z0.length cap0), ((⟨w.heap.size + 1, 0, none⟩ : Addr), Value.int .i64 n1), ((⟨w.heap.size + 1, 1, none⟩ : Addr), Value.slice ao1 z1.length cap1)] [] := ⟨bnext (by go_grown) b2, ⟨cnext b2 (by simp [go_sem]), cnext b2 (by simp [go_sem]), cnext b2 (by simp [go_sem]), cnext b2 (by simp [go_sem]), trivial⟩, trivial, fun _ _ _ h => by cases h⟩
      obtain ⟨kc0, kc1, kc2, kc3, -⟩ := s1.cs
      go_wp2_with fail
      refine (szParity_any n1 _ z1 _ _ (h1.below s1.bt) (by omega) (by omega)).mono ?_; rw [if_neg (by omega)]; rintro e W3 ⟨rfl, b4⟩
      clear kc0 kc1 kc2 kc3
      have s2 := s1.below b4
      obtain ⟨kc0, kc1, kc2, kc3, -⟩ := s2.cs
      go_wp2_with fail
      go_region_held3 (fun W' => W'.cell? (⟨w.heap.size, 0, none⟩ : Addr) = some (Value.int .i64 n0) ∧ W'.cell? (⟨w.heap.size, 1, none⟩ : Addr) = some (Value.slice ao0 z0.length cap0) ∧ W'.cell? (⟨w.heap.size + 1, 0, none⟩ : Addr) = some (Value.int .i64 n1) ∧ W'.cell? (⟨w.heap.size + 1, 1, none⟩ : Addr) = some (Value.slice ao1 z1.length cap1) ∧ St w W' [((⟨w.heap.size, 0, none⟩ : Addr), Value.int .i64 n0), ((⟨w.heap.size, 1, none⟩ : Addr), Value.slice ao0 z0.length cap0), ((⟨w.heap.size + 1, 0, none⟩ : Addr), Value.int .i64 n1), ((⟨w.heap.size + 1, 1, none⟩ : Addr), Value.slice ao1 z1.length cap1)] [])
        ((go_split_ands; refine ⟨?_, ?_, ?_, ?_, ?_⟩ <;> first | assumption | exact cnext (by assumption) (by assumption) | exact St.below (by assumption) (by assumption) | exact St.below (St.drew (by assumption)) (by assumption) | exact St.drew (by assumption) | exact St.drewN (by assumption) _))
        (first
          | (go_at_call 19; with_reducible refine Calls.mono (toParity_any n0 _ z0 _ ?_ (by omega)) ?_; (exact RI.below (St.bt (ks := [((⟨w.heap.size, 0, none⟩ : Addr), Value.int .i64 n0), ((⟨w.heap.size, 1, none⟩ : Addr), Value.slice ao0 z0.length cap0), ((⟨w.heap.size + 1, 0, none⟩ : Addr), Value.int .i64 n1), ((⟨w.heap.size + 1, 1, none⟩ : Addr), Value.slice ao1 z1.length cap1)]) (l := []) (by go_split_ands; first | assumption | exact St.drew (by assumption))) h0); rintro e W5 ⟨t6, rfl, o7, b8⟩; have qo7 := OI.shape o7; obtain ⟨ao9, cp10, rfl⟩ := qo7)
          | (go_at_call 19; with_reducible refine Calls.mono (toParity_any n1 _ z1 _ ?_ (by omega)) ?_; (exact RI.below (St.bt (ks := [((⟨w.heap.size, 0, none⟩ : Addr), Value.int .i64 n0), ((⟨w.heap.size, 1, none⟩ : Addr), Value.slice ao0 z0.length cap0), ((⟨w.heap.size + 1, 0, none⟩ : Addr), Value.int .i64 n1), ((⟨w.heap.size + 1, 1, none⟩ : Addr), Value.slice ao1 z1.length cap1)]) (l := []) (by go_split_ands; first | assumption | exact St.drew (by assumption))) h1); rintro e W11 ⟨t12, rfl, o13, b14⟩; have qo13 := OI.shape o13; obtain ⟨ao15, cp16, rfl⟩ := qo13)
          | (go_at_call 18; with_reducible refine Calls.mono (specSameP_any n0 _ z0 n1 _ z1 _ ?_ ?_) ?_; (exact (o7.ri.below b14)); (exact o13.ri); rintro e W17 ⟨rfl, b18⟩))
      have s3 : St w W17 [((⟨w.heap.size, 0, none⟩ : Addr), Value.int .i64 n0), ((⟨w.heap.size, 1, none⟩ : Addr), Value.slice ao0 z0.length cap0), ((⟨w.heap.size + 1, 0, none⟩ : Addr), Value.int .i64 n1), ((⟨w.heap.size + 1, 1, none⟩ : Addr), Value.slice ao1 z1.length cap1)] [] := by go_split_ands; assumption
      clear kc0 kc1 kc2 kc3
      obtain ⟨kc0, kc1, kc2, kc3, -⟩ := s3.cs
      go_wp2_with fail
      refine (toParity_any n0 _ z0 _ (h0.below s3.bt) (by omega)).mono ?_; rintro e W19 ⟨t20, rfl, o21, b22⟩
      obtain ⟨ao23, cp24, rfl⟩ := o21.2.rg.shape
      clear kc0 kc1 kc2 kc3
      have s4 := s3.push b22 o21.2
      obtain ⟨kc0, kc1, kc2, kc3, -⟩ := s4.cs
      clear kc0 kc1 kc2 kc3
      have s5 := s4.box2 (.int .i64 (n0)) (Value.slice ao23 (z0).length cp24) 35
      obtain ⟨kc0, kc1, kc2, kc3, kc4, kc5, -⟩ := s5.cs
      go_wp2_with fail
      refine (toParity_any n1 _ z1 _ (h1.below s5.bt) (by omega)).mono ?_; rintro e W25 ⟨t26, rfl, o27, b28⟩
      obtain ⟨ao29, cp30, rfl⟩ := o27.2.rg.shape
      clear kc0 kc1 kc2 kc3 kc4 kc5
      have s6 := s5.push b28 o27.2
      obtain ⟨kc0, kc1, kc2, kc3, kc4, kc5, -⟩ := s6.cs
      clear kc0 kc1 kc2 kc3 kc4 kc5
      have s7 := s6.box2 (.int .i64 (n1)) (Value.slice ao29 (z1).length cp30) 35
      obtain ⟨kc0, kc1, kc2, kc3, kc4, kc5, kc6, kc7, -⟩ := s7.cs
      go_wp2_with fail
      refine (implSameP_any n0 _ z0 n1 _ z1 _ (s7.oi (OI.i64 o21) (List.mem_of_getElem? (i := 1) rfl)).ri (s7.oi (OI.i64 o27) (List.mem_of_getElem? (i := 0) rfl)).ri).mono ?_; rintro e W31 ⟨rfl, b32⟩
      clear kc0 kc1 kc2 kc3 kc4 kc5 kc6 kc7
      have s8 := s7.below b32
      obtain ⟨kc0, kc1, kc2, kc3, kc4, kc5, kc6, kc7, -⟩ := s8.cs
      go_wp2_with fail
      go_region_held3 (fun W' => W'.cell? (⟨W25.heap.size, 0, none⟩ : Addr) = some (Value.int .i64 (n1)) ∧ W'.cell? (⟨W25.heap.size, 1, none⟩ : Addr) = some ((Value.slice ao29 (z1).length cp30)) ∧ W'.cell? (⟨W19.heap.size, 0, none⟩ : Addr) = some (Value.int .i64 (n0)) ∧ W'.cell? (⟨W19.heap.size, 1, none⟩ : Addr) = some ((Value.slice ao23 (z0).length cp24)) ∧ W'.cell? (⟨w.heap.size, 0, none⟩ : Addr) = some (Value.int .i64 n0) ∧ W'.cell? (⟨w.heap.size, 1, none⟩ : Addr) = some (Value.slice ao0 z0.length cap0) ∧ W'.cell? (⟨w.heap.size + 1, 0, none⟩ : Addr) = some (Value.int .i64 n1) ∧ W'.cell? (⟨w.heap.size + 1, 1, none⟩ : Addr) = some (Value.slice ao1 z1.length cap1) ∧ St w W' [((⟨W25.heap.size, 0, none⟩ : Addr), Value.int .i64 (n1)), ((⟨W25.heap.size, 1, none⟩ : Addr), (Value.slice ao29 (z1).length cp30)), ((⟨W19.heap.size, 0, none⟩ : Addr), Value.int .i64 (n0)), ((⟨W19.heap.size, 1, none⟩ : Addr), (Value.slice ao23 (z0).length cp24)), ((⟨w.heap.size, 0, none⟩ : Addr), Value.int .i64 n0), ((⟨w.heap.size, 1, none⟩ : Addr), Value.slice ao0 z0.length cap0), ((⟨w.heap.size + 1, 0, none⟩ : Addr), Value.int .i64 n1), ((⟨w.heap.size + 1, 1, none⟩ : Addr), Value.slice ao1 z1.length cap1)] [((Value.slice ao29 (z1).length cp30), (z1).map (Value.int .i64)), ((Value.slice ao23 (z0).length cp24), (z0).map (Value.int .i64))])
        ((go_split_ands; refine ⟨?_, ?_, ?_, ?_, ?_, ?_, ?_, ?_, ?_⟩ <;> first | assumption | exact cnext (by assumption) (by assumption) | exact St.below (by assumption) (by assumption) | exact St.below (St.drew (by assumption)) (by assumption) | exact St.drew (by assumption) | exact St.drewN (by assumption) _))
        (first
          | (go_at_call 19; with_reducible refine Calls.mono (toParity_any n0 _ z0 _ ?_ (by omega)) ?_; (exact RI.below (St.bt (ks := [((⟨W25.heap.size, 0, none⟩ : Addr), Value.int .i64 (n1)), ((⟨W25.heap.size, 1, none⟩ : Addr), (Value.slice ao29 (z1).length cp30)), ((⟨W19.heap.size, 0, none⟩ : Addr), Value.int .i64 (n0)), ((⟨W19.heap.size, 1, none⟩ : Addr), (Value.slice ao23 (z0).length cp24)), ((⟨w.heap.size, 0, none⟩ : Addr), Value.int .i64 n0), ((⟨w.heap.size, 1, none⟩ : Addr), Value.slice ao0 z0.length cap0), ((⟨w.heap.size + 1, 0, none⟩ : Addr), Value.int .i64 n1), ((⟨w.heap.size + 1, 1, none⟩ : Addr), Value.slice ao1 z1.length cap1)]) (l := [((Value.slice ao29 (z1).length cp30), (z1).map (Value.int .i64)), ((Value.slice ao23 (z0).length cp24), (z0).map (Value.int .i64))]) (by go_split_ands; first | assumption | exact St.drew (by assumption))) h0); rintro e W33 ⟨t34, rfl, o35, b36⟩; have qo35 := OI.shape o35; obtain ⟨ao37, cp38, rfl⟩ := qo35)
          | (go_at_call 21; with_reducible refine Calls.mono (eqParity_same (n0) _ _ z0 _ ?_ ?_) ?_; (exact OI.ri (St.oi (ks := [((⟨W25.heap.size, 0, none⟩ : Addr), Value.int .i64 (n1)), ((⟨W25.heap.size, 1, none⟩ : Addr), (Value.slice ao29 (z1).length cp30)), ((⟨W19.heap.size, 0, none⟩ : Addr), Value.int .i64 (n0)), ((⟨W19.heap.size, 1, none⟩ : Addr), (Value.slice ao23 (z0).length cp24)), ((⟨w.heap.size, 0, none⟩ : Addr), Value.int .i64 n0), ((⟨w.heap.size, 1, none⟩ : Addr), Value.slice ao0 z0.length cap0), ((⟨w.heap.size + 1, 0, none⟩ : Addr), Value.int .i64 n1), ((⟨w.heap.size + 1, 1, none⟩ : Addr), Value.slice ao1 z1.length cap1)]) (l := [((Value.slice ao29 (z1).length cp30), (z1).map (Value.int .i64)), ((Value.slice ao23 (z0).length cp24), (z0).map (Value.int .i64))]) (by go_split_ands; first | assumption | exact St.drew (by assumption)) ((OI.i64 o21)) (List.mem_of_getElem? (i := 1) rfl))); (exact o35.ri); rintro e W39 ⟨rfl, b40⟩))
      have s9 : St w W39 [((⟨W25.heap.size, 0, none⟩ : Addr), Value.int .i64 (n1)), ((⟨W25.heap.size, 1, none⟩ : Addr), (Value.slice ao29 (z1).length cp30)), ((⟨W19.heap.size, 0, none⟩ : Addr), Value.int .i64 (n0)), ((⟨W19.heap.size, 1, none⟩ : Addr), (Value.slice ao23 (z0).length cp24)), ((⟨w.heap.size, 0, none⟩ : Addr), Value.int .i64 n0), ((⟨w.heap.size, 1, none⟩ : Addr), Value.slice ao0 z0.length cap0), ((⟨w.heap.size + 1, 0, none⟩ : Addr), Value.int .i64 n1), ((⟨w.heap.size + 1, 1, none⟩ : Addr), Value.slice ao1 z1.length cap1)] [((Value.slice ao29 (z1).length cp30), (z1).map (Value.int .i64)), ((Value.slice ao23 (z0).length cp24), (z0).map (Value.int .i64))] := by go_split_ands; assumption
      clear kc0 kc1 kc2 kc3 kc4 kc5 kc6 kc7
      obtain ⟨kc0, kc1, kc2, kc3, kc4, kc5, kc6, kc7, -⟩ := s9.cs
      go_wp2_with fail
      go_region_held3 (fun W' => W'.cell? (⟨W25.heap.size, 0, none⟩ : Addr) = some (Value.int .i64 (n1)) ∧ W'.cell? (⟨W25.heap.size, 1, none⟩ : Addr) = some ((Value.slice ao29 (z1).length cp30)) ∧ W'.cell? (⟨W19.heap.size, 0, none⟩ : Addr) = some (Value.int .i64 (n0)) ∧ W'.cell? (⟨W19.heap.size, 1, none⟩ : Addr) = some ((Value.slice ao23 (z0).length cp24)) ∧ W'.cell? (⟨w.heap.size, 0, none⟩ : Addr) = some (Value.int .i64 n0) ∧ W'.cell? (⟨w.heap.size, 1, none⟩ : Addr) = some (Value.slice ao0 z0.length cap0) ∧ W'.cell? (⟨w.heap.size + 1, 0, none⟩ : Addr) = some (Value.int .i64 n1) ∧ W'.cell? (⟨w.heap.size + 1, 1, none⟩ : Addr) = some (Value.slice ao1 z1.length cap1) ∧ St w W' [((⟨W25.heap.size, 0, none⟩ : Addr), Value.int .i64 (n1)), ((⟨W25.heap.size, 1, none⟩ : Addr), (Value.slice ao29 (z1).length cp30)), ((⟨W19.heap.size, 0, none⟩ : Addr), Value.int .i64 (n0)), ((⟨W19.heap.size, 1, none⟩ : Addr), (Value.slice ao23 (z0).length cp24)), ((⟨w.heap.size, 0, none⟩ : Addr), Value.int .i64 n0), ((⟨w.heap.size, 1, none⟩ : Addr), Value.slice ao0 z0.length cap0), ((⟨w.heap.size + 1, 0, none⟩ : Addr), Value.int .i64 n1), ((⟨w.heap.size + 1, 1, none⟩ : Addr), Value.slice ao1 z1.length cap1)] [((Value.slice ao29 (z1).length cp30), (z1).map (Value.int .i64)), ((Value.slice ao23 (z0).length cp24), (z0).map (Value.int .i64))])
        ((go_split_ands; refine ⟨?_, ?_, ?_, ?_, ?_, ?_, ?_, ?_, ?_⟩ <;> first | assumption | exact cnext (by assumption) (by assumption) | exact St.below (by assumption) (by assumption) | exact St.below (St.drew (by assumption)) (by assumption) | exact St.drew (by assumption) | exact St.drewN (by assumption) _))
        (first
          | (go_at_call 19; with_reducible refine Calls.mono (toParity_any n1 _ z1 _ ?_ (by omega)) ?_; (exact RI.below (St.bt (ks := [((⟨W25.heap.size, 0, none⟩ : Addr), Value.int .i64 (n1)), ((⟨W25.heap.size, 1, none⟩ : Addr), (Value.slice ao29 (z1).length cp30)), ((⟨W19.heap.size, 0, none⟩ : Addr), Value.int .i64 (n0)), ((⟨W19.heap.size, 1, none⟩ : Addr), (Value.slice ao23 (z0).length cp24)), ((⟨w.heap.size, 0, none⟩ : Addr), Value.int .i64 n0), ((⟨w.heap.size, 1, none⟩ : Addr), Value.slice ao0 z0.length cap0), ((⟨w.heap.size + 1, 0, none⟩ : Addr), Value.int .i64 n1), ((⟨w.heap.size + 1, 1, none⟩ : Addr), Value.slice ao1 z1.length cap1)]) (l := [((Value.slice ao29 (z1).length cp30), (z1).map (Value.int .i64)), ((Value.slice ao23 (z0).length cp24), (z0).map (Value.int .i64))]) (by go_split_ands; first | assumption | exact St.drew (by assumption))) h1); rintro e W41 ⟨t42, rfl, o43, b44⟩; have qo43 := OI.shape o43; obtain ⟨ao45, cp46, rfl⟩ := qo43)
          | (go_at_call 21; with_reducible refine Calls.mono (eqParity_same (n1) _ _ z1 _ ?_ ?_) ?_; (exact OI.ri (St.oi (ks := [((⟨W25.heap.size, 0, none⟩ : Addr), Value.int .i64 (n1)), ((⟨W25.heap.size, 1, none⟩ : Addr), (Value.slice ao29 (z1).length cp30)), ((⟨W19.heap.size, 0, none⟩ : Addr), Value.int .i64 (n0)), ((⟨W19.heap.size, 1, none⟩ : Addr), (Value.slice ao23 (z0).length cp24)), ((⟨w.heap.size, 0, none⟩ : Addr), Value.int .i64 n0), ((⟨w.heap.size, 1, none⟩ : Addr), Value.slice ao0 z0.length cap0), ((⟨w.heap.size + 1, 0, none⟩ : Addr), Value.int .i64 n1), ((⟨w.heap.size + 1, 1, none⟩ : Addr), Value.slice ao1 z1.length cap1)]) (l := [((Value.slice ao29 (z1).length cp30), (z1).map (Value.int .i64)), ((Value.slice ao23 (z0).length cp24), (z0).map (Value.int .i64))]) (by go_split_ands; first | assumption | exact St.drew (by assumption)) ((OI.i64 o27)) (List.mem_of_getElem? (i := 0) rfl))); (exact o43.ri); rintro e W47 ⟨rfl, b48⟩))
      have s10 : St w W47 [((⟨W25.heap.size, 0, none⟩ : Addr), Value.int .i64 (n1)), ((⟨W25.heap.size, 1, none⟩ : Addr), (Value.slice ao29 (z1).length cp30)), ((⟨W19.heap.size, 0, none⟩ : Addr), Value.int .i64 (n0)), ((⟨W19.heap.size, 1, none⟩ : Addr), (Value.slice ao23 (z0).length cp24)), ((⟨w.heap.size, 0, none⟩ : Addr), Value.int .i64 n0), ((⟨w.heap.size, 1, none⟩ : Addr), Value.slice ao0 z0.length cap0), ((⟨w.heap.size + 1, 0, none⟩ : Addr), Value.int .i64 n1), ((⟨w.heap.size + 1, 1, none⟩ : Addr), Value.slice ao1 z1.length cap1)] [((Value.slice ao29 (z1).length cp30), (z1).map (Value.int .i64)), ((Value.slice ao23 (z0).length cp24), (z0).map (Value.int .i64))] := by go_split_ands; assumption
      clear kc0 kc1 kc2 kc3 kc4 kc5 kc6 kc7
      obtain ⟨kc0, kc1, kc2, kc3, kc4, kc5, kc6, kc7, -⟩ := s10.cs
      go_wp2
      go_ret
      exact ⟨rfl, s10.bt⟩
    · go_enter Try.func6, Try.ntmps6
      go_wp2_with fail
      refine (szParity_any n0 _ z0 _ _ (h0.below (by go_grown)) (by omega) (by omega)).mono ?_; rw [if_neg (by omega)]; rintro e W49 ⟨rfl, b50⟩
      have s11 : St w W49 [((⟨w.heap.size, 0, none⟩ : Addr), Value.int .i64 n0), ((⟨w.heap.size, 1, none⟩ : Addr), Value.slice ao0 z0.length cap0), ((⟨w.heap.size + 1, 0, none⟩ : Addr), Value.int .i64 n1), ((⟨w.heap.size + 1, 1, none⟩ : Addr), Value.slice ao1 z1.length cap1)] [] := ⟨bnext (by go_grown) b50, ⟨cnext b50 (by simp [go_sem]), cnext b50 (by simp [go_sem]), cnext b50 (by simp [go_sem]), cnext b50 (by simp [go_sem]), trivial⟩, trivial, fun _ _ _ h => by cases h⟩
      obtain ⟨kc0, kc1, kc2, kc3, -⟩ := s11.cs
      go_wp2_with fail
      refine (szParity_any n1 _ z1 _ _ (h1.below s11.bt) (by omega) (by omega)).mono ?_; rw [if_pos (by omega)]; rintro e W51 ⟨rfl, b52⟩
      clear kc0 kc1 kc2 kc3
      have s12 := s11.below b52
      obtain ⟨kc0, kc1, kc2, kc3, -⟩ := s12.cs
      go_wp2
      go_ret
      exact ⟨rfl, s12.bt⟩
  · go_enter Try.func6, Try.ntmps6
    go_wp2_with fail
    refine (szParity_any n0 _ z0 _ _ (h0.below (by go_grown)) (by omega) (by omega)).mono ?_; rw [if_pos (by omega)]; rintro e W53 ⟨rfl, b54⟩
    have s13 : St w W53 [((⟨w.heap.size, 0, none⟩ : Addr), Value.int .i64 n0), ((⟨w.heap.size, 1, none⟩ : Addr), Value.slice ao0 z0.length cap0), ((⟨w.heap.size + 1, 0, none⟩ : Addr), Value.int .i64 n1), ((⟨w.heap.size + 1, 1, none⟩ : Addr), Value.slice ao1 z1.length cap1)] [] := ⟨bnext (by go_grown) b54, ⟨cnext b54 (by simp [go_sem]), cnext b54 (by simp [go_sem]), cnext b54 (by simp [go_sem]), cnext b54 (by simp [go_sem]), trivial⟩, trivial, fun _ _ _ h => by cases h⟩
    obtain ⟨kc0, kc1, kc2, kc3, -⟩ := s13.cs
    go_wp2
    go_ret
    exact ⟨rfl, s13.bt⟩

set_option maxRecDepth 100000 in
theorem lifted (os : Os) (started : os.Started) (H : Type) (enc : TypeId × Value → H) :
    ReturnsInHanded {} Try.checked os 6 .any (Rows.fnExactSameParitySpec.pre6 enc Try.prog Try.f6 Rows.fnExactSameParityRow.domain false) (Rows.fnExactSameParitySpec.post enc Try.prog Try.f6 false true false false) := by
  refine returnsInHanded_of_change (C := Try.checked) own started (by kernel_rfl) Try.func6
    (ChangeSpec.witness6 (enc := enc) (C := Try.checked) false ⟨#[], #[.agg #[.int .i64 0, .slice none 0 0], .agg #[.int .i64 0, .slice none 0 0]], []⟩ 8 (by kernel_rfl) (by kernel_rfl) (by kernel_rfl) (by kernel_rfl)) ?_
  intro W base args ds gs before hval0 hW hcnd _
  have hval : ∀ (j : Nat) t v, Try.f6.params[j]? = some t → args[j]? = some v → Value.okWide Try.prog W .any base t v := hval0
  have hW' := hW
  obtain ⟨p, q, hA0, hV, rfl, hfz, hnd⟩ := hW
  have hA : DataW.TrodAll enc Try.prog W 0 (fun _ => true) true Try.f6.params.toList args.toList ds p := hA0
  rw [Try.params6] at hA hval
  obtain ⟨v0, vs0, d0, ds0, p0, q0, hargs, rfl, rfl, h0, r0⟩ := trodAll_cons hA
  obtain ⟨v1, vs1, d1, ds1, p1, q1, rfl, rfl, rfl, h1, r1⟩ := trodAll_cons r0
  obtain ⟨rfl, rfl, rfl⟩ := trodAll_nil r1
  obtain rfl : args = #[v0, v1] := by cases args; simp_all
  obtain ⟨rfl, rfl⟩ := trodVars_none hV
  have k0 := h0
  have lt0 : ∀ x ∈ p0, x.block < W.heap.size := by obtain ⟨m, hm⟩ := k0; exact DataW.trod_lt m _ _ _ hm
  obtain ⟨n0, y0, z0, rfl, w0⟩ := view_Parity (hval 0 32 v0 rfl rfl) h0
  have k1 := h1
  have lt1 : ∀ x ∈ p1, x.block < W.heap.size := by obtain ⟨m, hm⟩ := k1; exact DataW.trod_lt m _ _ _ hm
  obtain ⟨n1, y1, z1, rfl, w1⟩ := view_Parity (hval 1 32 v1 rfl rfl) h1
  clear hA0 hval0
  refine (walk n0 y0 z0 n1 y1 z1 W w0 w1).mono fun e W' ⟨he, bel⟩ => ?_
  subst he
  exact ⟨_, rfl, _, _, _, [], _, [], hW', trodAll_mk1 (shut_bool Try.underlying4 _), (trodAll_cons_mk (Below.trod laidOut (by kernel_rfl) (of_decide_eq_true (by kernel_rfl)) k0 bel lt0) (trodAll_cons_mk (Below.trod laidOut (by kernel_rfl) (of_decide_eq_true (by kernel_rfl)) k1 bel lt1) trodAll_mk0)), rfl, bel.frame _, fun h => by cases h⟩

theorem over : Rows.fnExactSameParityRow.holds Try.pinned (OpenSpec.ofChange Rows.fnExactSameParitySpec) :=
  OpenClaim.holds_of_wide 6 Try.f6 rfl rfl rfl rfl rfl rfl rfl ⟨rfl, rfl, rfl, rfl, rfl⟩ rfl rfl rfl rfl rfl (by kernel_rfl) Try.func6 (by kernel_rfl)
    (of_decide_eq_true (by kernel_rfl)) (by unfold Func.isWrapper; first | (rw [if_pos (by decide +kernel)]; kernel_rfl) | (rw [if_neg (by decide +kernel)]; exact ⟨rfl, rfl⟩))
    (fun os started H enc _ => lifted os started H enc)

theorem proved : Rows.FnExactSameParitySaid := over
end Go.Proofs.Ytpdebndkmdkmmaa.fnExactSameParity
