/-
  An op of layer 17.
-/
import Derived.Test.YtcdgeeoajhbneaaGreatViewA
namespace Go.Proofs.YtcdgeeoajhbneaaGreat
open Go.RowKit Go.Cib
structure OpV17 where
  what : Int
  at_ : Int
  n : Int
  key : ByteArray
  val : ByteArray
def OpV17.cells (o : OpV17) : Array Value := #[.int .i64 o.what, .int .i64 o.at_, .int .i64 o.n, .string o.key, .string o.val]
structure OpV17.Fits (o : OpV17) : Prop where
  key : o.key.size ≤ 1000000000000000000
  val : o.val.size ≤ 1000000000000000000
end Go.Proofs.YtcdgeeoajhbneaaGreat
