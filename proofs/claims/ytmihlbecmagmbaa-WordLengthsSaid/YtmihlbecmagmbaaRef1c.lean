import Derived.Test.YtmihlbecmagmbaaRef1b
namespace Go.Proofs.Ytmihlbecmagmbaa
open Go.RowKit

theorem u8v_get (l : List Nat) (i : Nat) (h : i < l.length) : (l.map u8v)[i]? = some (.int .u8 (l[i] : Int)) := by
  simp [u8v, List.getElem?_eq_getElem h]

theorem take_succ_eq {xs ys : List Nat} {k : Nat} (h1 : k < xs.length) (h2 : k < ys.length) (h : xs.take k = ys.take k) (e : xs[k] = ys[k]) : xs.take (k + 1) = ys.take (k + 1) := by
  rw [List.take_succ_eq_append_getElem h1, List.take_succ_eq_append_getElem h2, h, e]

end Go.Proofs.Ytmihlbecmagmbaa
