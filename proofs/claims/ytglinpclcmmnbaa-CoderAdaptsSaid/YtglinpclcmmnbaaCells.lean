/- Results that lie in cells. -/
import Derived.Test.YtglinpclcmmnbaaSepLaws2
import Derived.Laws.ResultCell
import Derived.Laws.Rows
namespace Go.Proofs.Ytglinpclcmmnbaa
open Go.RowKit

theorem loadVar_plain {P : Program} {w : World} {ty : TypeId} {d : TypeDesc} {a : Addr} {v : Value} (hu : P.underlying ty = some d) (hd : (match d with | .struct _ | .array _ _ => true | _ => false) = false) (hc : w.cell? a = some v) : (loadVar ty a).run P w = .ok v w := by
  cases d <;> first | (cases hd; done) | simp [loadVar, isAgg, run_underlying hu, go_sem, hc, Result.andThen]
theorem results_cell1 {P : Program} {w : World} {fn : Func} {p : Tmp} {ty : TypeId} {a : Addr} {v : Value} {tmps : Array Value} (h : fn.results = #[.cell p ty]) (hp : tmps.getD p undef = .pointer (some a)) (hl : (loadVar ty a).run P w = .ok v w) :
    (results fn tmps).run P w = .ok v w := by
  have hp' : tmps[p]?.getD undef = .pointer (some a) := by simpa using hp
  simp [results, h, hp', asAddr, hl]
theorem results_cell1_tmp {P : Program} {w : World} {fn : Func} {p u : Tmp} {ty : TypeId} {a : Addr} {v : Value} {tmps : Array Value} (h : fn.results = #[.cell p ty, .tmp u]) (hp : tmps.getD p undef = .pointer (some a)) (hl : (loadVar ty a).run P w = .ok v w) :
    (results fn tmps).run P w = .ok (.tuple #[v, tmps.getD u undef]) w := by
  have hp' : tmps[p]?.getD undef = .pointer (some a) := by simpa using hp
  simp [results, h, hp', asAddr, hl, Result.andThen]
theorem results_cell2 {P : Program} {w : World} {fn : Func} {p q : Tmp} {ty tz : TypeId} {a b : Addr} {v u : Value} {tmps : Array Value} (h : fn.results = #[.cell p ty, .cell q tz]) (hp : tmps.getD p undef = .pointer (some a)) (hl : (loadVar ty a).run P w = .ok v w)
    (hq : tmps.getD q undef = .pointer (some b)) (hm : (loadVar tz b).run P w = .ok u w) :
    (results fn tmps).run P w = .ok (.tuple #[v, u]) w := by
  have hp' : tmps[p]?.getD undef = .pointer (some a) := by simpa using hp
  have hq' : tmps[q]?.getD undef = .pointer (some b) := by simpa using hq
  simp [results, h, hp', hq', asAddr, hl, hm, Result.andThen]

end Go.Proofs.Ytglinpclcmmnbaa
