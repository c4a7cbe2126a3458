/- NodeEntry, walked, whatever the input. -/
import Derived.Test.YtdllibalmjadhaaGreatE33
import Derived.Test.YtdllibalmjadhaaGreatE34
import Derived.Test.YtdllibalmjadhaaGreatE35
import Derived.Test.YtdllibalmjadhaaGreatE36

namespace Go.Proofs.YtdllibalmjadhaaGreat
open Go Go.RowKit

theorem entryLaw_any (pts : List Nat) (crs : List Int) (sa : Option Addr) (sk : Nat) (hpts : ∀ x ∈ pts, x < 4294967296) (ca : Option Addr) (ck : Nat) (seed : Nat) (w : World) (hp : ReadsL u32v w sa pts) (hc : ReadsL (Value.int .i64) w ca crs) :
    Calls Tryz.prog 7 #[.slice sa pts.length sk, .slice ca crs.length ck, .int .u64 seed] w fun en w' => en = .returned (.bool true) ∧ Below w.heap.size w w' := by
  rcases Nat.lt_or_ge 10 pts.length with h1 | h1 <;> rcases Nat.lt_or_ge 12 crs.length with h2 | h2
  · exact entryLaw_GtGt pts crs h1 h2 sa sk hpts ca ck seed w hp hc
  · exact entryLaw_GtLe pts crs h1 h2 sa sk hpts ca ck seed w hp hc
  · exact entryLaw_LeGt pts crs h1 h2 sa sk hpts ca ck seed w hp hc
  · exact entryLaw_LeLe pts crs h1 h2 sa sk hpts ca ck seed w hp hc
end Go.Proofs.YtdllibalmjadhaaGreat
