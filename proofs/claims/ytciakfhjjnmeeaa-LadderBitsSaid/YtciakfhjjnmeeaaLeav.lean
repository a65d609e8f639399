/- A call of one goroutine returns, as a row that says 'leaving' asks: nobody else is there at all. Said over any program. -/
import Derived.Conc.Holds
import Derived.Leaving
import Derived.Handed
namespace Go.Proofs.Ytciakfhjjnmeeaa

theorem leaving_of_handed {a : Assume} {C : Checked} {os : Os} {f : FuncId} {r : Reach} {Pre : World → Array Value → Prop} {Post : World → Array Value → Value → World → Prop}
    (h : ReturnsInHanded a C os f r Pre Post) : ReturnsInLeavingWide a C os f r Pre Post := fun e => by
  obtain ⟨h1, h2, h3, h4, h5⟩ := h e
  refine ⟨h1, h2, h3, h4, fun w t i hf => ?_⟩
  obtain ⟨n, v, w', k1, k2, k3, k4, ⟨j, last, l1, l2, q, ho, eh⟩, k5⟩ := h5 w t i hf
  exact ⟨n, v, w', k1, k2, k3, k4, ⟨j, last, l1, l2, ho, onlyLeaving_of_quiet q, eh⟩, k5⟩
end Go.Proofs.Ytciakfhjjnmeeaa
