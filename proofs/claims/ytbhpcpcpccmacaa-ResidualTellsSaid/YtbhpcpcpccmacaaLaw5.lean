/- Chapter 05: what all laws need: rows that may be, as natural numbers. -/
import Derived.Test.YtbhpcpcpccmacaaMod10
import Derived.Test.YtbhpcpcpccmacaaMod11
import Derived.Test.YtbhpcpcpccmacaaMod12
import Derived.Test.YtbhpcpcpccmacaaGF
namespace Go.Proofs.Ytbhpcpcpccmacaa
open Go.RowKit Go.Shelf

/-- A row that may be. -/
structure Row5 (N C : Nat) (ss cs : List Nat) : Prop where
  n1 : 1 ≤ N
  n2 : N ≤ 256
  c1 : 1 ≤ C
  c2 : C ≤ 64
  len : cs.length = ss.length
  few : ss.length ≤ 65536
  syms : ∀ s ∈ ss, s < N
  ctx : ∀ c ∈ cs, c < C
def zs (l : List Nat) : List Int := l.map fun x : Nat => (x : Int)
theorem zs_length (l : List Nat) : (zs l).length = l.length := List.length_map _
theorem zs_iv (l : List Nat) : (zs l).map iv = l.map dv := by unfold zs; rw [List.map_map]; rfl
theorem zs_nat (l : List Nat) : (zs l).map Int.toNat = l := by
  unfold zs
  rw [List.map_map]
  exact (List.map_congr_left fun x _ => rfl).trans (List.map_id _)
theorem zs_inj {a b : List Nat} (h : zs a = zs b) : a = b := by rw [← zs_nat a, h, zs_nat]
theorem zs_eq {a b : List Nat} : (zs a = zs b) ↔ a = b := ⟨zs_inj, fun h => by rw [h]⟩
theorem zs_of {l : List Int} (h : ∀ x ∈ l, 0 ≤ x) : l = zs (l.map Int.toNat) := by
  unfold zs
  rw [List.map_map]
  refine ((List.map_congr_left fun x hx => ?_).trans (List.map_id _)).symm
  exact Int.toNat_of_nonneg (h x hx)
theorem fit_row {n cx : Int} {syms ctx : List Int} (h : fitE n cx syms ctx = 0) : ∃ (N C : Nat) (ss cs : List Nat), n = (N : Int) ∧ cx = (C : Int) ∧ syms = zs ss ∧ ctx = zs cs ∧ Row5 N C ss cs := by
  unfold fitE at h
  by_cases h1 : n < 1 ∨ 256 < n ∨ cx < 1 ∨ 64 < cx
  · rw [if_pos h1] at h; exact absurd h (by decide)
  rw [if_neg h1] at h
  by_cases h2 : syms.length ≠ ctx.length
  · rw [if_pos h2] at h; exact absurd h (by decide)
  rw [if_neg h2] at h
  by_cases h3 : 65536 < syms.length
  · rw [if_pos h3] at h; exact absurd h (by decide)
  rw [if_neg h3] at h
  by_cases h4 : (∀ s ∈ syms, 0 ≤ s ∧ s < n) ∧ (∀ c ∈ ctx, 0 ≤ c ∧ c < cx)
  · refine ⟨n.toNat, cx.toNat, syms.map Int.toNat, ctx.map Int.toNat, by omega, by omega, zs_of fun x hx => (h4.1 x hx).1, zs_of fun x hx => (h4.2 x hx).1, by omega, by omega, by omega, by omega, by simp; omega, by simp; omega, fun s hs => ?_, fun c hc => ?_⟩
    · obtain ⟨x, hx, rfl⟩ := List.mem_map.1 hs
      have := h4.1 x hx
      omega
    · obtain ⟨x, hx, rfl⟩ := List.mem_map.1 hc
      have := h4.2 x hx
      omega
  · rw [if_neg h4] at h; exact absurd h (by decide)
theorem row_fit {N C : Nat} {ss cs : List Nat} (h : Row5 N C ss cs) : fitE (N : Int) (C : Int) (zs ss) (zs cs) = 0 := by
  obtain ⟨h1, h2, h3, h4, h5, h6, h7, h8⟩ := h
  have k1 : ∀ s ∈ zs ss, 0 ≤ s ∧ s < (N : Int) := fun s hs => by
    obtain ⟨x, hx, rfl⟩ := List.mem_map.1 hs
    have := h7 x hx
    omega
  have k2 : ∀ s ∈ zs cs, 0 ≤ s ∧ s < (C : Int) := fun s hs => by
    obtain ⟨x, hx, rfl⟩ := List.mem_map.1 hs
    have := h8 x hx
    omega
  unfold fitE
  rw [if_neg (by omega), if_neg (by rw [zs_length, zs_length]; omega), if_neg (by rw [zs_length]; omega), if_pos ⟨k1, k2⟩]
theorem encB_zs (N : Nat) (ss cs : List Nat) : encB (N : Int) (zs ss) (zs cs) = encN N ss cs := by
  unfold encB
  rw [zs_nat, zs_nat, Int.toNat_natCast]
theorem Row5.chk {N C : Nat} {ss cs : List Nat} (h : Row5 N C ss cs) : chkE (N : Int) (C : Int) (zs cs) = 0 := by
  obtain ⟨h1, h2, h3, h4, h5, h6, h7, h8⟩ := h
  have k2 : ∀ s ∈ zs cs, 0 ≤ s ∧ s < (C : Int) := fun s hs => by
    obtain ⟨x, hx, rfl⟩ := List.mem_map.1 hs
    have := h8 x hx
    omega
  unfold chkE
  rw [if_neg (by omega), if_neg (by rw [zs_length]; omega), if_pos k2]

theorem nencode_calls {v u : Value} {N C : Nat} {ss cs : List Nat} {F : List HP} {w : World} (hr : Row5 N C ss cs) (hrv : Reads F v ss.length 1 (ss.map dv)) (hru : Reads F u cs.length 1 (cs.map dv)) (H : Sep w F) :
    Calls Try.prog 26 #[.int .i64 (N : Int), .int .i64 (C : Int), v, u] w (Gives fun r w' => ∃ a c, r = .tuple #[.slice a (encN N ss cs).length c, .int .i64 0] ∧ Sep w' (HP.row 5 1 (.slice a (encN N ss cs).length c) (encN N ss cs).length ((encN N ss cs).map bv) :: F)) := by
  refine (mencode_calls (n := (N : Int)) (cx := (C : Int)) (syms := zs ss) (ctx := zs cs) (by rw [zs_length, zs_iv]; exact hrv) (by rw [zs_length, zs_iv]; exact hru) H).mono ?_
  rintro e w' ⟨r, rfl, ⟨hf, -, -⟩ | ⟨-, x, rfl, H2⟩⟩
  · exact absurd (row_fit hr) hf
  · rw [encB_zs] at H2
    obtain ⟨a, c, rfl⟩ := H2.row_form
    exact ⟨_, rfl, a, c, rfl, H2⟩
theorem nfits_calls {v u : Value} {N C : Nat} {ss cs : List Nat} {F : List HP} {w : World} (hr : Row5 N C ss cs) (hrv : Reads F v ss.length 1 (ss.map dv)) (hru : Reads F u cs.length 1 (cs.map dv)) (H : Sep w F) :
    Calls Try.prog 27 #[.int .i64 (N : Int), .int .i64 (C : Int), v, u] w fun e w' => e = .returned (.int .i64 0) ∧ w = w' := by
  have := rfits5_calls (n := (N : Int)) (cx := (C : Int)) (syms := zs ss) (ctx := zs cs) (by rw [zs_length]; have := hr.few; omega) (by rw [zs_length, zs_iv]; exact hrv) (by rw [zs_length, zs_iv]; exact hru) H
  rw [row_fit hr] at this
  exact this
theorem ndecode_calls {a : Option Addr} {cap : Nat} {u : Value} {N C : Nat} {ss cs : List Nat} {F : List HP} {w : World} (hr : Row5 N C ss cs) (hcap : (encN N ss cs).length ≤ cap)
    (hrb : Reads F (.slice a (encN N ss cs).length cap) (encN N ss cs).length 1 ((encN N ss cs).map bv)) (hru : Reads F u cs.length 1 (cs.map dv)) (H : Sep w F) :
    Calls Try.prog 30 #[.slice a (encN N ss cs).length cap, .int .i64 (N : Int), .int .i64 (C : Int), u] w (Gives fun r w' => ∃ a c, r = .tuple #[.slice a ss.length c, .int .i64 0] ∧ Sep w' (HP.row 3 1 (.slice a ss.length c) ss.length (ss.map dv) :: F)) := by
  have hle := enc_le N ss cs
  have hw := Nat.mul_le_mul hr.few (width_8 hr.n2)
  refine (mdecode_calls (n := (N : Int)) (cx := (C : Int)) (ctx := zs cs) hcap (encN_lt _ _ _) (by omega) hrb (by rw [zs_length, zs_iv]; exact hru) H).mono ?_
  have hcl : (zs cs).length = ss.length := by rw [zs_length, hr.len]
  have hok : RowOk (N : Int).toNat (zs cs).length ss := ⟨hcl.symm, fun s hs => by rw [Int.toNat_natCast]; exact hr.syms s hs⟩
  have hen : encN (N : Int).toNat ss ((zs cs).map Int.toNat) = encN N ss cs := by rw [zs_nat, Int.toNat_natCast]
  rintro e w' ⟨r, rfl, ⟨hf, -, -⟩ | ⟨-, ss', x, -, -, huq, rfl, H2⟩ | ⟨-, hno, -, -⟩⟩
  · exact absurd hr.chk hf
  · obtain rfl := huq ss hok hen
    rw [hcl] at H2
    obtain ⟨a, c, rfl⟩ := H2.row_form
    exact ⟨_, rfl, a, c, rfl, H2⟩
  · exact absurd hen (hno ss hok)
theorem nints_calls {va vb : Value} {xs ys : List Nat} {w : World} (hx : xs.length ≤ 1099511627776) (ha : RdS w va xs.length 1 (xs.map dv)) (hb : RdS w vb ys.length 1 (ys.map dv)) :
    Calls Try.prog 31 #[va, vb] w fun e w' => e = .returned (.bool (decide (xs = ys))) ∧ ∃ n, w' = w.drewN n := by
  have := ints_calls (va := va) (vb := vb) (xs := zs xs) (ys := zs ys) (by rw [zs_length]; exact hx) (by rw [zs_length, zs_iv]; exact ha) (by rw [zs_length, zs_iv]; exact hb)
  have e : decide (zs xs = zs ys) = decide (xs = ys) := decide_eq_decide.2 zs_eq
  rw [e] at this
  exact this
theorem zero_dv (m : Nat) : List.replicate m (Value.int .i64 0) = (List.replicate m (0 : Nat)).map dv := by simp [dv]
/-- The two slices of whole numbers that came in. -/
theorem IsRow.read {w : World} {a : Option Addr} {len cap : Nat} {z : List Int} (h : IsRow .i64 w a len cap z) : ∃ xs : List Int, xs.length = len ∧ Reads [HP.old w.heap.size w] (.slice a len cap) len 1 (xs.map iv) := by
  obtain ⟨xs, h1, -, h2, -⟩ := h.ints
  exact ⟨xs, h1, Reads.old h2⟩

end Go.Proofs.Ytbhpcpcpccmacaa
