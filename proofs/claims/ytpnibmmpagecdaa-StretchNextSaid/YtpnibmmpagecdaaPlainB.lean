/-
  The plain law of layer 3: numbers of 24 bits in the place of 48, as integers. No program in sight.
-/
import Derived.Test.YtpnibmmpagecdaaPlain
namespace Go.Proofs.Ytpnibmmpagecdaa

def sShort (n : Int) : Int := n % 16777216
def sUp (near short : Int) : Int := if 8388608 < (short - near) % 16777216 then (short - near) % 16777216 - 16777216 else (short - near) % 16777216
def sLong (near short : Int) : Int := cOf (near + sUp near short)
def sSafe (near n : Int) : Bool := decide (-8388608 < cFar n near) && decide (cFar n near ≤ 8388608)
/-- The first of them. -/
def sFirst (start short : Int) : Int := start + (short - start) % 16777216
/-- The first k of them, from a on. -/
def sNx (a : Int) (k : Nat) : List Int := (List.range k).map fun (i : Nat) => cOf (a + (i : Int) * 16777216)
def sCount (many : Int) : Nat := (min (max many 0) 100).toNat

theorem sShort_lo (n : Int) : 0 ≤ sShort n := by unfold sShort; omega
theorem sShort_hi (n : Int) : sShort n ≤ 16777215 := by unfold sShort; omega
theorem sShort_sub (a b : Int) : sShort (sShort a - sShort b) = (a - b) % 16777216 := by unfold sShort; omega
theorem sShort_cOf (n : Int) : cOf n % 16777216 = sShort n := by unfold sShort cOf; omega
theorem sUp_lo (near short : Int) : -8388608 < sUp near short := by unfold sUp; split <;> omega
theorem sUp_hi (near short : Int) : sUp near short ≤ 8388608 := by unfold sUp; split <;> omega
theorem sUp_mod (near short : Int) : (near + sUp near short) % 16777216 = sShort short := by unfold sUp sShort; split <;> omega
theorem sNx_zero (a : Int) : sNx a 0 = [] := rfl
theorem sNx_succ (a : Int) (k : Nat) : sNx a (k + 1) = sNx a k ++ [cOf (a + (k : Int) * 16777216)] := by
  unfold sNx; rw [List.range_succ, List.map_append]; rfl
theorem sNx_length (a : Int) (k : Nat) : (sNx a k).length = k := by simp [sNx]
theorem sNx_get (a : Int) (k i : Nat) (h : i < k) : (sNx a k)[i]? = some (cOf (a + (i : Int) * 16777216)) := by
  simp [sNx, h]
theorem sNx_congr (a b : Int) (k : Nat) (h : cOf a = cOf b) : sNx a k = sNx b k := by
  unfold sNx; apply List.map_congr_left; intro i _; unfold cOf at *; omega
theorem sNx_step (a : Int) (k : Nat) : cOf (cOf (a + (k : Int) * 16777216) + 16777216) = cOf (a + ((k + 1 : Nat) : Int) * 16777216) := by
  unfold cOf; omega

/-- The reference's way of finding the nearest one: the one of three that is near enough. -/
theorem long_hit (near short k : Int) (h0 : -1 ≤ k) (h1 : k ≤ 1) :
    cFar (cOf ((cOf near / 16777216 + k) * 16777216 + sShort short)) near = k * 16777216 + sShort short - sShort near := by
  have h : cOf (cOf ((cOf near / 16777216 + k) * 16777216 + sShort short) - near) = cOf (k * 16777216 + sShort short - sShort near) := by unfold cOf sShort; omega
  unfold cFar; rw [h]; unfold cOf sShort; split <;> omega
theorem long_val (near short k : Int) (h : k * 16777216 + sShort short - sShort near = sUp near short) :
    cOf ((cOf near / 16777216 + k) * 16777216 + sShort short) = sLong near short := by
  unfold sLong; rw [← h]; unfold cOf sShort; omega
theorem sUp_is (near short d : Int) (h : d % 16777216 = (short - near) % 16777216) (h1 : -8388608 < d) (h2 : d ≤ 8388608) : sUp near short = d := by
  unfold sUp; split <;> omega
theorem hit_is (near short k : Int) (h1 : -8388608 < k * 16777216 + sShort short - sShort near) (h2 : k * 16777216 + sShort short - sShort near ≤ 8388608) :
    k * 16777216 + sShort short - sShort near = sUp near short :=
  (sUp_is near short _ (by unfold sShort; omega) h1 h2).symm
theorem sUp_form (near short : Int) : ∃ j : Int, -1 ≤ j ∧ j ≤ 1 ∧ sUp near short = j * 16777216 + sShort short - sShort near := by
  have h1 := sUp_lo near short
  have h2 := sUp_hi near short
  have h3 := sUp_mod near short
  unfold sShort at *
  exact ⟨(near + sUp near short) / 16777216 - near / 16777216, by omega, by omega, by omega⟩

/-! ### the laws of layer 3 -/
theorem back_long (near n : Int) : sLong near (sShort n) = sLong near n := by
  unfold sLong sUp sShort; have e : (n % 16777216 - near) % 16777216 = (n - near) % 16777216 := by omega
  rw [e]
theorem back_safe (near n : Int) : (sLong near n == cOf n) = sSafe near n := by
  have h : cFar n near = if 140737488355328 < cOf (n - near) then cOf (n - near) - 281474976710656 else cOf (n - near) := rfl
  have hm := sUp_mod near n
  have hlo := sUp_lo near n
  have hhi := sUp_hi near n
  have hf := order_back n near
  have f1 := cFar_lo n near
  have f2 := cFar_hi n near
  by_cases hs : -8388608 < cFar n near ∧ cFar n near ≤ 8388608
  · have hu : sUp near n = cFar n near := sUp_is near n _ (by unfold cOf at hf; omega) hs.1 hs.2
    have e : sSafe near n = true := by unfold sSafe; simp [hs.1, hs.2]
    rw [e]; unfold sLong; rw [hu, hf]; simp
  · have e : sSafe near n = false := by
      unfold sSafe; rw [Bool.and_eq_false_iff]
      rcases Int.lt_or_le (-8388608) (cFar n near) with h1 | h1
      · right; apply decide_eq_false; exact fun h2 => hs ⟨h1, h2⟩
      · left; apply decide_eq_false; omega
    rw [e, beq_eq_false_iff_ne]
    intro hc
    unfold sLong at hc
    unfold cOf at hc hf
    omega
theorem back_short (near n : Int) : sShort (sLong near n) = sShort n := by
  have hm := sUp_mod near n
  unfold sLong cOf; unfold sShort at *; omega
theorem far_long (near n : Int) : cFar (sLong near n) near = sUp near n := by
  have hlo := sUp_lo near n
  have hhi := sUp_hi near n
  have h : cOf (sLong near n - near) = cOf (sUp near n) := by unfold sLong cOf; omega
  unfold cFar; rw [h]; unfold cOf; split <;> omega
theorem back_near (near n : Int) : sSafe near (sLong near n) = true := by
  have hlo := sUp_lo near n
  have hhi := sUp_hi near n
  unfold sSafe; rw [far_long]; simp [hlo, hhi]
theorem stays_self (near short : Int) : sLong (sLong near short) short = sLong near short := by
  have hm := sUp_mod near short
  have h : sUp (sLong near short) short = 0 := sUp_is _ _ _ (by unfold sLong cOf; unfold sShort at hm; omega) (by omega) (by omega)
  show cOf (sLong near short + sUp (sLong near short) short) = _
  rw [h]; unfold sLong cOf; omega
/-- Where one stands on a number between. -/
theorem stays_between (near short st : Int) (h : (0 ≤ st ∧ st ≤ sUp near short) ∨ (sUp near short ≤ st ∧ st ≤ 0)) : sLong (cOf near + st) short = sLong near short := by
  have hm := sUp_mod near short
  have hlo := sUp_lo near short
  have hhi := sUp_hi near short
  have h2 : sUp (cOf near + st) short = sUp near short - st := sUp_is _ _ _ (by unfold cOf; unfold sShort at hm; omega) (by omega) (by omega)
  show cOf (cOf near + st + sUp (cOf near + st) short) = _
  rw [h2]; unfold sLong cOf; omega
theorem next_near (from_ short : Int) : sNx (sFirst (cOf (from_ + -8388607)) short) 1 = [sLong from_ short] := by
  have hm := sUp_mod from_ short
  have hlo := sUp_lo from_ short
  have hhi := sUp_hi from_ short
  show [cOf (sFirst (cOf (from_ + -8388607)) short + ((0 : Nat) : Int) * 16777216)] = _
  congr 1
  unfold sFirst sLong cOf; unfold sShort at hm; omega
theorem next_short (from_ short : Int) (i : Nat) : sShort (cOf (sFirst from_ short + (i : Int) * 16777216)) = sShort short := by
  unfold sFirst sShort cOf; omega

end Go.Proofs.Ytpnibmmpagecdaa
