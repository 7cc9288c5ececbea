/- What the statements' arguments read as, in the words of this seat's walks; the call's row. No conditions. -/
import Derived.Test.YtiejljlmbpgbiaaBase
import Derived.ProofKit
import Derived.OpenShut
import Derived.ShutString
import Derived.ChangeOld
import Derived.Below
import Derived.Lib.SmallJoins
namespace Go.Proofs.Ytiejljlmbpgbiaa
open Go.ChangeShapes Go.WideShapes Go.ChangeAt Go.RowKit
set_option maxRecDepth 100000

theorem own : ownKnob Try.prog.godebug = none := by kernel_rfl
theorem laidOut : laidOutB Try.prog = true := by kernel_rfl

theorem i64_of_wf {a : Int} (h : (Lit.int .i64 a).wf = true) : I64 a := by
  have := bounds_i64 h
  exact this

section
variable {H : Type} {enc : TypeId × Value → H} {W : World} {base : Nat} {spare : Nat → Bool} {held : Bool} {v : Value} {d : DataW H} {p : List MemPlace}

theorem ri_of_ints {a : Option Addr} {len cap : Nat} (x : Addr) (zs : List Int) (ha : a = some x) (hl : len ≤ cap) (hm : cap ≤ maxLen) (hz : zs.length = cap)
    (hcell : ∀ i, i < zs.length → W.cell? (x.add i) = some (.int .i64 (zs.getD i 0))) (hwz : ∀ n ∈ zs, (Lit.int .i64 n).wf = true) : ∃ ys, RI W (.slice a len cap) ys := by
  subst ha
  have hlen : (zs.take len).length = len := by simp; omega
  refine ⟨zs.take len, fun z hz => i64_of_wf (hwz z (List.mem_of_mem_take hz)), some x, cap, by rw [hlen], by rw [hlen]; exact hl, hm, fun i hi => ?_⟩
  have hi' : i < zs.length := by rw [hlen] at hi; omega
  have hc := hcell i hi'
  obtain ⟨b, off, spot⟩ := x
  have hspot : spot = none := by simpa [Addr.add] using World.cell?_spot (hcell 0 (by omega))
  subst hspot
  refine ⟨b, off, rfl, ?_⟩
  rw [Addr.add_lit] at hc
  rw [hc]; simp [hi']

end
end Go.Proofs.Ytiejljlmbpgbiaa
