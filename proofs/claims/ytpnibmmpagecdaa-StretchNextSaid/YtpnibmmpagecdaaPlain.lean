/-
  The plain law of layers 2 and 3: numbers modulo 2 to the 48th, as integers. No program in sight.
-/
import Derived.Laws.Bits64
import Derived.IntWalk
namespace Go.Proofs.Ytpnibmmpagecdaa
open Go.RowKit

theorem and_mask48 (n : Int) : bits .and .i64 n 281474976710655 = n % 281474976710656 := by
  have h2 : (BitVec.ofInt 64 (281474976710655 : Int)).toNat = 281474976710655 := by decide
  have h1 : ((BitVec.ofInt 64 n).toNat : Int) = n % 18446744073709551616 := by
    rw [BitVec.toNat_ofInt]
    have : 0 ≤ n % ((2 ^ 64 : Nat) : Int) := Int.emod_nonneg _ (by decide)
    rw [Int.toNat_of_nonneg this]
    rfl
  show IntKind.i64.wrap ((BitVec.ofInt 64 n &&& BitVec.ofInt 64 (281474976710655 : Int)).toNat : Int) = _
  rw [BitVec.toNat_and, h2]
  have h3 : (BitVec.ofInt 64 n).toNat &&& 281474976710655 = (BitVec.ofInt 64 n).toNat % 281474976710656 := Nat.and_two_pow_sub_one_eq_mod _ 48
  rw [h3, Int.natCast_emod, h1, IntKind.wrap_i64]
  omega

theorem and_mask24 (n : Int) : bits .and .i64 n 16777215 = n % 16777216 := by
  have h2 : (BitVec.ofInt 64 (16777215 : Int)).toNat = 16777215 := by decide
  have h1 : ((BitVec.ofInt 64 n).toNat : Int) = n % 18446744073709551616 := by
    rw [BitVec.toNat_ofInt]
    have : 0 ≤ n % ((2 ^ 64 : Nat) : Int) := Int.emod_nonneg _ (by decide)
    rw [Int.toNat_of_nonneg this]
    rfl
  show IntKind.i64.wrap ((BitVec.ofInt 64 n &&& BitVec.ofInt 64 (16777215 : Int)).toNat : Int) = _
  rw [BitVec.toNat_and, h2]
  have h3 : (BitVec.ofInt 64 n).toNat &&& 16777215 = (BitVec.ofInt 64 n).toNat % 16777216 := Nat.and_two_pow_sub_one_eq_mod _ 24
  rw [h3, Int.natCast_emod, h1, IntKind.wrap_i64]
  omega

/-- A number, modulo 2 to the 48th. -/
def cOf (n : Int) : Int := n % 281474976710656
def cFar (a b : Int) : Int := if 140737488355328 < cOf (a - b) then cOf (a - b) - 281474976710656 else cOf (a - b)
def cLess (a b : Int) : Bool := decide (cFar a b < 0)
def cWithin (n f t : Int) : Bool := decide (cOf (n - f) ≤ cOf (t - f))

theorem cOf_lo (n : Int) : 0 ≤ cOf n := by unfold cOf; omega
theorem cOf_hi (n : Int) : cOf n ≤ 281474976710655 := by unfold cOf; omega
theorem cOf_def (n : Int) : cOf n = n % 281474976710656 := rfl
theorem cOf_add (a b : Int) : (cOf a + cOf b) % 281474976710656 = cOf (a + b) := by unfold cOf; omega
theorem cOf_sub (a b : Int) : (cOf a - cOf b) % 281474976710656 = cOf (a - b) := by unfold cOf; omega
theorem cFar_lo (a b : Int) : -140737488355328 < cFar a b := by unfold cFar cOf; split <;> omega
theorem cFar_hi (a b : Int) : cFar a b ≤ 140737488355328 := by unfold cFar cOf; split <;> omega

/-- What the reference's remainder comes to, before and after its test. -/
theorem cOf_tmod_nn (n : Int) (h : 0 ≤ n.tmod 281474976710656) : n.tmod 281474976710656 = cOf n := by
  unfold cOf
  rcases Int.lt_or_le n 0 with hn | hn
  · have e : n.tmod 281474976710656 = -((-n) % 281474976710656) := by
      rw [← Int.tmod_eq_emod_of_nonneg (by omega), Int.neg_tmod, Int.neg_neg]
    omega
  · exact Int.tmod_eq_emod_of_nonneg hn
theorem cOf_tmod_neg (n : Int) (h : n.tmod 281474976710656 < 0) : n.tmod 281474976710656 + 281474976710656 = cOf n := by
  unfold cOf
  rcases Int.lt_or_le n 0 with hn | hn
  · have e : n.tmod 281474976710656 = -((-n) % 281474976710656) := by
      rw [← Int.tmod_eq_emod_of_nonneg (by omega), Int.neg_tmod, Int.neg_neg]
    omega
  · rw [Int.tmod_eq_emod_of_nonneg hn] at h; omega
theorem tmod48_bd (n : Int) : -281474976710656 < n.tmod 281474976710656 ∧ n.tmod 281474976710656 < 281474976710656 := by
  rcases Int.lt_or_le n 0 with hn | hn
  · have e : n.tmod 281474976710656 = -((-n) % 281474976710656) := by
      rw [← Int.tmod_eq_emod_of_nonneg (by omega), Int.neg_tmod, Int.neg_neg]
    omega
  · rw [Int.tmod_eq_emod_of_nonneg hn]; omega
/-- What is left of a difference when both loops are through. -/
theorem cFar_of (a b x : Int) (h : cOf x = cOf (a - b)) (h1 : -140737488355328 < x) (h2 : x ≤ 140737488355328) : x = cFar a b := by
  unfold cFar; rw [← h]; unfold cOf; split <;> omega
theorem cOf_ofs (a b : Int) : cOf (cOf a - cOf b) = cOf (a - b) := by unfold cOf; omega
theorem cOf_less (x : Int) : cOf (x - 281474976710656) = cOf x := by unfold cOf; omega
theorem cOf_more (x : Int) : cOf (x + 281474976710656) = cOf x := by unfold cOf; omega
theorem cOf_ofa (a b : Int) : cOf (cOf a + cOf b) = cOf (a + b) := by unfold cOf; omega
theorem many_lt (f t : Int) (h : cOf t < cOf f) : cOf t + 281474976710656 - cOf f + 1 = cOf (t - f) + 1 := by unfold cOf at *; omega
theorem many_ge (f t : Int) (h : cOf f ≤ cOf t) : cOf t - cOf f + 1 = cOf (t - f) + 1 := by unfold cOf at *; omega

/-! ### the laws of layer 2 -/
theorem order_back (a b : Int) : cOf (b + cFar a b) = cOf a := by unfold cFar cOf; split <;> omega
theorem order_shift (a b n : Int) : cFar (cOf (a + n)) (cOf (b + n)) = cFar a b := by
  have h : cOf (cOf (a + n) - cOf (b + n)) = cOf (a - b) := by unfold cOf; omega
  unfold cFar; rw [h]
theorem order_tie (a b : Int) (h : cFar a b = 0 ∨ cFar a b = 140737488355328) : cLess a b = false ∧ cLess b a = false := by
  unfold cLess cFar cOf at *
  constructor <;> (apply decide_eq_false; split at h <;> split <;> omega)
theorem order_neg (a b : Int) (h0 : cFar a b ≠ 0) (h1 : cFar a b ≠ 140737488355328) : cFar b a = -cFar a b := by
  unfold cFar cOf at *
  split at h0 <;> split <;> omega
theorem order_other (a b : Int) (h0 : cFar a b ≠ 0) (h1 : cFar a b ≠ 140737488355328) : (cLess a b != cLess b a) = true := by
  have h := order_neg a b h0 h1
  unfold cLess
  rw [h]
  by_cases h2 : cFar a b < 0
  · rw [decide_eq_true h2, decide_eq_false (by omega)]; rfl
  · rw [decide_eq_false h2, decide_eq_true (by omega)]; rfl
theorem within_first (f t : Int) : cWithin f f t = true := by
  unfold cWithin cOf; apply decide_eq_true; omega
theorem within_last (f t : Int) : cWithin t f t = true := by
  unfold cWithin; apply decide_eq_true; omega
theorem within_end (f t : Int) : cOf (f + cOf (t - f)) = cOf t := by unfold cOf; omega
theorem within_all (n f t : Int) (h : cOf (t - f) = 281474976710655) : cWithin n f t = true := by
  unfold cWithin; rw [h]; apply decide_eq_true; unfold cOf; omega
theorem within_not (n f t : Int) (h : cOf (t - f) ≠ 281474976710655) : (cWithin n f t != cWithin n (cOf (t + 1)) (cOf (f + -1))) = true := by
  unfold cWithin
  by_cases h1 : cOf (n - f) ≤ cOf (t - f)
  · rw [decide_eq_true h1, decide_eq_false (by unfold cOf at *; omega)]; rfl
  · rw [decide_eq_false h1, decide_eq_true (by unfold cOf at *; omega)]; rfl
theorem steps_one (a x y : Int) : cOf (cOf (a + x) + y) = cOf (a + (x + y)) := by unfold cOf; omega
theorem steps_two (a x y : Int) : cOf (cOf (a + y) + x) = cOf (a + (x + y)) := by unfold cOf; omega
theorem steps_back (a x y : Int) : cOf (cOf (a + (x + y)) + (-x - y)) = cOf a := by unfold cOf; omega
theorem steps_far (a x y : Int) (h0 : 0 ≤ x) (h1 : 0 ≤ y) (h2 : x + y < 140737488355328) : cFar (cOf (a + (x + y))) a = x + y := by
  unfold cFar cOf; split <;> omega
theorem steps_rev (a x y : Int) (h0 : 0 ≤ x) (h1 : 0 ≤ y) (h2 : x + y < 140737488355328) : cFar a (cOf (a + (x + y))) = -x - y := by
  unfold cFar cOf; split <;> omega
theorem steps_many (a x y : Int) (h0 : 0 ≤ x) (h1 : 0 ≤ y) (h2 : x + y < 140737488355328) : cOf (cOf (a + (x + y)) - a) = x + y := by
  unfold cOf; omega
theorem steps_within (a x y : Int) (h0 : 0 ≤ x) (h1 : 0 ≤ y) (h2 : x + y < 140737488355328) : cWithin (cOf (a + x)) a (cOf (a + (x + y))) = true := by
  unfold cWithin cOf; apply decide_eq_true; omega

end Go.Proofs.Ytpnibmmpagecdaa
