/- What stands at a place. -/
import Derived.Test.YthalhapbllbefaaOut
import Derived.Test.YthalhapbllbefaaPermP
namespace Go.Proofs.Ythalhapbllbefaa

theorem iv_get {l : List Nat} {i x : Nat} (h : l[i]? = some x) : (l.map iv)[i]? = some (.int .i64 (x : Int)) := by simp [h, iv]
theorem sv_get {l : List Nat} {i x : Nat} (h : l[i]? = some x) : (l.map sv)[i]? = some (.int .u64 (x : Int)) := by simp [h, sv]
theorem at_get {l : List Nat} {i : Nat} (h : i < l.length) : l[i]? = some (at_ l i) := by simp [at_, h]
end Go.Proofs.Ythalhapbllbefaa
