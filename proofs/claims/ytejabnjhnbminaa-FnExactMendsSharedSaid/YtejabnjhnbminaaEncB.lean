/- EncodeBits, InCode, DecodeBits: what both packages return. No conditions but that the slices read. -/
import Derived.Test.YtejabnjhnbminaaEnc
namespace Go.Proofs.Ytejabnjhnbminaa
open Go.RowKit
set_option maxRecDepth 100000
set_option linter.unusedVariables false
set_option linter.unusedSimpArgs false

def enOk (n : Int) (zs : List Int) (m : Int) : Bool := prv n zs && isW m zs.length
def enV (n : Int) (zs : List Int) (m : Int) : Int := if enOk n zs m = true then ((enc (toN zs) m.toNat : Nat) : Int) else 0
theorem nn_of {zs : List Int} (h : zs = ofN (toN zs)) : ∀ z ∈ zs, 0 ≤ z := by rw [h]; intro z hz; obtain ⟨y, _, rfl⟩ := List.mem_map.1 hz; omega
def inOk (n : Int) (zs : List Int) (x : Int) : Bool := prv n zs && isW x n
def inV (n : Int) (zs : List Int) (x : Int) : Bool := if inOk n zs x = true then (dec (toN zs) x.toNat).isSome else false
def deOk (n : Int) (zs : List Int) (x : Int) : Bool := inOk n zs x && (dec (toN zs) x.toNat).isSome
def deV (n : Int) (zs : List Int) (x : Int) : Int := if inOk n zs x = true then (((dec (toN zs) x.toNat).getD 0 : Nat) : Int) else 0
set_option maxHeartbeats 1000000 in
theorem has_any (n : Int) (v : Value) (zs : List Int) (x : Int) (w : World) (h : RI w v zs) :
    Calls Try.prog 63 #[.agg #[.int .i64 n, v], .int .i64 x] w fun e w' => e = .returned (.bool (inOk n zs x)) ∧ Below w.heap.size w w' := by
  obtain ⟨ao, cap, rfl⟩ := h.shape
  have hb : ∀ o, Below w.heap.size w (w.alloc o) := fun o => by go_grown
  have g := h.below (hb (.cells #[.int .i64 n, .slice ao zs.length cap] 28))
  by_cases hc : prv n zs = true
  · have HO := Lib.hid (show inOk n zs x = isW x n by simp [inOk, hc])
    have hn : 0 ≤ n ∧ n ≤ 16 := by obtain ⟨k, rfl, hk1, hk16, _⟩ := prv_parts hc; omega
    obtain ⟨hn0, hn16⟩ := hn
    go_enter Try.func63, Try.ntmps63
    go_wp2_with fail
    refine (implParity_any _ _ zs _ g).mono ?_
    rw [hc]
    rintro e w1 ⟨rfl, hb1⟩
    obtain ⟨r0, r1, q0, q1⟩ := blk2 (blk_next hb1 (heap_alloc_new w _))
    have hB := bnext (hb _) hb1
    go_wp2_with (go_at_call 111; refine (isWordOf_any _ _ hn0 hn16 _).mono ?_; rintro e w' ⟨rfl, rfl⟩)
    go_ret
    exact ⟨ret_bool HO.out.symm, hB⟩
  · have hc : prv n zs = false := by simpa using hc
    have HO := Lib.hid (show inOk n zs x = false by simp [inOk, hc])
    go_enter Try.func63, Try.ntmps63
    go_wp2_with fail
    refine (implParity_any _ _ zs _ g).mono ?_
    rw [hc]
    rintro e w1 ⟨rfl, hb1⟩
    go_wp2
    go_ret
    exact ⟨ret_bool HO.out.symm, bnext (hb _) hb1⟩
set_option maxHeartbeats 1000000 in
theorem l06Can_any (n : Int) (v : Value) (zs : List Int) (x : Int) (B : Nat) (w : World) (h : RI w v zs)
    (c0 : w.cell? ⟨B, 0, none⟩ = some (.int .i64 n)) (c1 : w.cell? ⟨B, 1, none⟩ = some v) :
    Calls Try.prog 58 #[.pointer (some ⟨B, 0, none⟩), .int .i64 x] w fun e w' => e = .returned (.bool (inOk n zs x)) ∧ Below w.heap.size w w' := by
  by_cases hc : prv n zs = true
  · have HO := Lib.hid (show inOk n zs x = isW x n by simp [inOk, hc])
    have hn : 0 ≤ n ∧ n ≤ 16 := by obtain ⟨k, rfl, hk1, hk16, _⟩ := prv_parts hc; omega
    obtain ⟨hn0, hn16⟩ := hn
    go_enter Try.func58, Try.ntmps58
    go_wp2_with fail
    refine (l06Is_any n _ zs B _ h c0 c1).mono ?_
    rw [hc]
    rintro e w1 ⟨rfl, hb1⟩
    have r0 := cnext hb1 c0
    go_wp2_with (go_at_call 68; refine (l06Word_any _ _ hn0 hn16 _).mono ?_; rintro e w' ⟨rfl, rfl⟩)
    go_ret
    exact ⟨ret_bool HO.out.symm, hb1⟩
  · have hc : prv n zs = false := by simpa using hc
    have HO := Lib.hid (show inOk n zs x = false by simp [inOk, hc])
    go_enter Try.func58, Try.ntmps58
    go_wp2_with fail
    refine (l06Is_any n _ zs B _ h c0 c1).mono ?_
    rw [hc]
    rintro e w1 ⟨rfl, hb1⟩
    go_wp2
    go_ret
    exact ⟨ret_bool HO.out.symm, hb1⟩
end Go.Proofs.Ytejabnjhnbminaa
