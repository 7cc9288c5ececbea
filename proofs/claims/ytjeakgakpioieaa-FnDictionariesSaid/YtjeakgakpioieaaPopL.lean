/- As XPopI: in a round of a range over a function, a region in the order of the text, walked as outside. Conditions: what each theorem names. -/
import Derived.Test.YtjeakgakpioieaaPopI
namespace Go.Proofs.Ytjeakgakpioieaa
open Go.RowKit
set_option maxRecDepth 100000
set_option linter.unusedVariables false
set_option linter.unusedSimpArgs false

section
variable {n : Nat} {P : Program} {ops : Array Oper} {Q : Exit → Act → World → Prop}
def noDefL : List Oper → Bool
  | [] => true
  | o :: os => (match o.op with | .defer _ => false | _ => true) && noDefL os
theorem wpListIn_of {l : Nat} : ∀ (os : List Oper) (hd : noDefL os = true) (a : Act) (w : World), wpList P ops (NoOut Q) os a w → wpListIn (Fence.wide.inRound l) n P ops Q os a w
  | [], _, _, _, h => h
  | o :: os, hd, a, w, h => by
    simp only [noDefL, Bool.and_eq_true] at hd
    unfold wpList at h
    unfold wpListIn
    split
    · rename_i hw
      simp only [hw, if_true] at h
      rcases h with h | ⟨_, _, _, hl⟩
      · refine Oper.wpIn_mono (fun a' w' h' => wpListIn_of os hd.2 a' w' h') ?_
        unfold Oper.wpIn
        refine ⟨fun _ _ => trivial, ?_⟩
        rw [show (Fence.wide.inRound l).round = some l from rfl, Oper.semAt_some l _ o (fun c e => by rw [e] at hd; exact absurd hd.1 Bool.false_ne_true)]
        exact uponIn_of h
      · exact hl.elim
    · rename_i hw
      simp only [hw] at h
      exact ⟨fun _ _ => trivial, wpListIn_of os hd.2 _ _ h⟩
theorem wpIn_region_out {l id : Nat} {a : Act} {w : World} {os : List Oper} (hd : noDefL os = true) (h : wpList P os.toArray (NoOut Q) os a w) : (Code.region id os.toArray false).wpIn (Fence.wide.inRound l) n P Q a w :=
  wpIn_region_lit (wpListIn_of os hd a w h)
end
end Go.Proofs.Ytjeakgakpioieaa
