/- The walk of ViewMerges, whatever comes in. -/
import Derived.Test.YtachfnmbhhppbaaDoorZa
import Derived.Test.YtachfnmbhhppbaaDoorZb
import Derived.Test.YtachfnmbhhppbaaDoorZc
namespace Go.Proofs.YtachfnmbhhppbaaDoor
open Go.RowKit
theorem merges_any (va vb : Value) (a b : List Mem) (nd : Int) (up : Bool) (w : World) (ha : SlR w va a) (hb : SlR w vb b) (hg : Gl w) :
    Calls Tryd.prog 3 #[va, vb, .int .i64 nd, .bool up] w fun e w' => e = .returned (.bool true) ∧ Below w.heap.size w w' := by
  have ha' := ha
  obtain ⟨A, n, c, rfl, h2, h3, h4, h5⟩ := ha'
  by_cases h1 : viewErr a = 0
  · by_cases h2 : viewErr b = 0
    · exact merges_good A n c vb a b nd up w ha hb hg h1 h2
    · exact merges_half A n c vb a b nd up w ha hb hg _ h1 rfl h2
  · rcases Nat.eq_zero_or_pos n with hn | hn
    · exact merges_bad_none A n c vb a b nd up w ha hb hg _ rfl h1 hn
    · exact merges_bad_some A n c vb a b nd up w ha hb hg _ rfl h1 hn
end Go.Proofs.YtachfnmbhhppbaaDoor
