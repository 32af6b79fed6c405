/- table: Clone, Find. -/
import Derived.Test.YtglinpclcmmnbaaTab3
import Derived.Test.YtglinpclcmmnbaaSepStep
import Derived.Shelf.Abstract
namespace Go.Proofs.Ytglinpclcmmnbaa
open Go.RowKit

set_option maxRecDepth 100000 in
set_option maxHeartbeats 1000000 in
theorem clone_calls {b : Nat} {cs : List Int} {R : List HP} {w : World} (hv : Vt cs) (H : Sep w (Tbl b cs :: R)) :
    Calls Try.prog 32 #[.pointer (some ⟨b, 0, none⟩)] w (Gives fun r w' => ∃ c, r = .pointer (some ⟨c, 0, none⟩) ∧ Sep w' (Tbl c cs :: Tbl b cs :: R)) := by
  obtain ⟨sv, H⟩ := Tbl.open H
  have c0 := H.cell 0 rfl
  have c1 := H.cell 1 rfl
  obtain ⟨g, cap, cur, rfl, -⟩ := H.tail.row_open (by have := hv.1; omega)
  have c0 : w.cell? ⟨b, 0, none⟩ = some (.slice (some ⟨g, 0, none⟩) cs.length cap) := H.cell 0 rfl
  have c1 : w.cell? ⟨b, 1, none⟩ = some (.int .i64 (isum cs)) := H.cell 1 rfl
  have hl := hv.2.1
  have hrd : Reads (HP.pt b #[.slice (some ⟨g, 0, none⟩) cs.length cap, .int .i64 (isum cs)] 81 :: HP.row 3 1 (.slice (some ⟨g, 0, none⟩) cs.length cap) cs.length (cs.map iv) :: R) (.slice (some ⟨g, 0, none⟩) cs.length cap) cs.length 1 (cs.map iv) := Reads.row.cons
  have HS := Lib.hid (fun (w1 : World) => sclone_calls (w := w1) hl hrd)
  clear hrd hv
  go_enter Try.func32, Try.ntmps32
  go_wp2_with fail
  go_region_held3 (fun w' => w'.cell? ⟨b, 0, none⟩ = some (.slice (some ⟨g, 0, none⟩) cs.length cap) ∧ w'.cell? ⟨b, 1, none⟩ = some (.int .i64 (isum cs))) (first | exact ⟨c0, c1⟩ | exact ⟨H5.tail.cell 0 rfl, H5.tail.cell 1 rfl⟩ | exact ⟨(H5.alloc _ _).tail.tail.cell 0 rfl, (H5.alloc _ _).tail.tail.cell 1 rfl⟩) ((go_at_call 51; refine (HS.out _ H.drew).mono ?_; rintro e w5 ⟨r, rfl, H5⟩; obtain ⟨ra, rc, rfl⟩ := H5.row_form))
  have H6 := Tbl.shut (H5.alloc #[.slice ra cs.length rc, .int .i64 (isum cs)] 81)
  have H7 := Tbl.shut H6.mid2
  go_wp2_with fail
  go_ret
  exact ⟨_, rfl, _, rfl, H7.swap⟩

/-- A predicate that is handed over as a function value: what it says of each number, and that the frame stays. -/
def Says (k : Nat) (x y : Value) (R : List HP) (n : Nat) (p : Nat → Bool) : Prop :=
  ∀ (i : Nat) (w : World), i < n → Sep w R → Calls Try.prog k #[.int .i64 (i : Int), x, y] w fun e w' => e = .returned (.bool (p i)) ∧ Sep w' R

set_option maxRecDepth 100000 in
set_option maxHeartbeats 1000000 in
theorem search_calls {k m n : Nat} {x y : Value} {R : List HP} {p : Nat → Bool} {w : World} (hen : ∀ args w, (callFunc k args).run Try.prog w = .ok (.enter k args) w) (hn : n ≤ 1099511627776) (hm : m ≤ n) (hlo : ∀ i, i < m → p i = false) (hhi : ∀ i, m ≤ i → i < n → p i = true) (hs : Says k x y R n p) (H : Sep w R) :
    Calls Try.prog 52 #[.int .i64 (n : Int), .func (.func k) #[] #[x, y]] w fun e w' => e = .returned (.int .i64 (m : Int)) ∧ Sep w' R := by
  have HS := Lib.hid hs
  have HLO := Lib.hid hlo
  have HHI := Lib.hid hhi
  clear hs hlo hhi
  go_enter Try.func52, Try.ntmps52
  go_wp2_with fail
  go_loopg [5, 6, 7] n (fun gk i j _ wr => ∃ a b : Nat, Hid (a ≤ m ∧ m ≤ b ∧ b ≤ n ∧ gk = b - a) ∧ i = .int .i64 (a : Int) ∧ j = .int .i64 (b : Int) ∧ Sep wr R)
  case atStart => exact ⟨0, n, Lib.hid ⟨by omega, hm, by omega, rfl⟩, rfl, rfl, H⟩
  case round =>
    obtain ⟨a, b, hq, rfl, rfl, Hr⟩ := hrel
    obtain ⟨q1, q2, q3, q4⟩ := hq.out
    clear hq
    by_cases c : a < b
    · go_wp2_with fail
      have hi : ((a : Int) + (b : Int)) / 2 = ((a + b) / 2 : Nat) := by omega
      have hlt : (a + b) / 2 < n := by omega
      rw [hi]
      clear hi
      refine (HS.out _ _ hlt Hr).mono ?_
      rintro e w2 ⟨rfl, H2⟩
      clear Hr
      by_cases cm : (a + b) / 2 < m
      · rw [HLO.out _ cm]
        go_wp2_with fail
        go_roundg (b - ((a + b) / 2 + 1))
        case rel => exact ⟨(a + b) / 2 + 1, b, Lib.hid ⟨by omega, by omega, by omega, rfl⟩, by go_num, rfl, H2⟩
        case measure => omega
      · rw [HHI.out _ (by omega) hlt]
        go_wp2_with fail
        go_roundg ((a + b) / 2 - a)
        case rel => exact ⟨a, (a + b) / 2, Lib.hid ⟨by omega, by omega, by omega, rfl⟩, rfl, by go_num, H2⟩
        case measure => omega
    · obtain rfl : a = m := by omega
      go_wp2_with fail
      go_ret
      exact ⟨rfl, Hr⟩

end Go.Proofs.Ytglinpclcmmnbaa
