/- Sizes of strings, under short names. -/
import Derived.Test.YtecojcpccglelaaDoorAid
namespace Go.Proofs.YtecojcpccglelaaDoor.PAll
theorem z1 {b : ByteArray} {s e : Nat} : (b.extract s e).size = min e b.size - s := ByteArray.size_extract
theorem z2 {a b : ByteArray} : (a ++ b).size = a.size + b.size := ByteArray.size_append
theorem z6 (n : Nat) : min n n = n := Nat.min_self n
theorem z7 (n m : Nat) : ((n + m : Nat) : Int) = (n : Int) + (m : Int) := Int.natCast_add n m
end Go.Proofs.YtecojcpccglelaaDoor.PAll
