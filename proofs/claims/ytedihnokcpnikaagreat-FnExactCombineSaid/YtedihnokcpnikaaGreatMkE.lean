/- A block that lies on either side of the marks keeps its cells. -/
import Derived.Test.YtedihnokcpnikaaGreatHMk
namespace Go.Proofs.YtedihnokcpnikaaGreat
theorem Mk.either {lo hi k : Nat} {w w' : World} (h : Mk lo hi w w') (hk : k < lo ∨ hi ≤ k) (hlt : k < w.heap.size) : w'.heap[k]? = w.heap[k]? :=
  hk.elim (fun h1 => h.below.block k h1) (fun h1 => h.keep k h1 hlt)
end Go.Proofs.YtedihnokcpnikaaGreat
