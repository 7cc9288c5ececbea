/- What a statement's walk carries: two slices that one call returns. No conditions. -/
import Derived.Test.YtgkgfpljblnpnaaState
namespace Go.Proofs.Ytgkgfpljblnpnaa
open Go.RowKit
theorem St.push2 {w W W1 : World} {ks : List (Addr × Value)} {l : List (Value × List Value)} {α α' : Type} {enc : α → Value} {enc' : α' → Value} {v v' : Value} {xs : List α} {xs' : List α'} (s : St w W ks l) (hb : Below W.heap.size W W1) (ho : Og enc W.heap.size W1 v xs) (ho' : Og enc' W.heap.size W1 v' xs') (hap : v.ownBlock = none ∨ v.ownBlock ≠ v'.ownBlock) : St w W1 ks ((v', xs'.map enc') :: (v, xs.map enc) :: l) := by
  have s1 := s.push hb ho
  have s2 := s.push hb ho'
  refine ⟨s1.bt, s1.cs, ⟨s2.env.1, fun q hq => ?_, s1.env⟩, fun k hk p hp => ?_⟩
  · rcases List.mem_cons.1 hq with rfl | hq
    · exact sep.symm hap
    · exact s2.env.2.1 q hq
  · rcases List.mem_cons.1 hp with rfl | hp
    · exact s2.ke k hk _ (List.mem_cons_self ..)
    · exact s1.ke k hk p hp
end Go.Proofs.Ytgkgfpljblnpnaa
