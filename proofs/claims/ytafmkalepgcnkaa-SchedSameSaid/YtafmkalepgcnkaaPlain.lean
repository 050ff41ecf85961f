/-
  The plain law of layer 17: how long it waits, each time. No program in sight.
-/
import Derived.IntWalk
namespace Go.Proofs.Ytafmkalepgcnkaa

/-- How long it waits at first. -/
def bFirst (ticks : Int) : Int := min (max ticks 1) 64
theorem bFirst_lo (t : Int) : 1 ≤ bFirst t := by unfold bFirst; omega
theorem bFirst_hi (t : Int) : bFirst t ≤ 64 := by unfold bFirst; omega

/-- How long it waits, each time. -/
def bN (m : Int) : Nat → Int
  | 0 => m
  | i + 1 => min (2 * bN m i) 64
/-- How long it has waited in all. -/
def bSum (m : Int) : Nat → Int
  | 0 => 0
  | i + 1 => bSum m i + bN m i
theorem bN_bd (m : Int) (h : 1 ≤ m) (h2 : m ≤ 64) (i : Nat) : 1 ≤ bN m i ∧ bN m i ≤ 64 := by
  induction i with
  | zero => exact ⟨h, h2⟩
  | succ i ih => simp only [bN]; omega
theorem bSum_bd (m : Int) (h : 1 ≤ m) (h2 : m ≤ 64) (i : Nat) : 0 ≤ bSum m i ∧ bSum m i ≤ 64 * (i : Int) := by
  induction i with
  | zero => simp [bSum]
  | succ i ih => have := bN_bd m h h2 i; simp only [bSum]; omega
theorem bSum_mono (m : Int) (h : 1 ≤ m) (h2 : m ≤ 64) (i d : Nat) : bSum m i ≤ bSum m (i + d) := by
  induction d with
  | zero => exact Int.le_refl _
  | succ d ih => have := bN_bd m h h2 (i + d); show _ ≤ bSum m (i + d) + bN m (i + d); omega
/-- Where it stands: waiting for the i-th time with lf ticks left; it is behind n ticks. -/
theorem bSum_lt (m : Int) (h : 1 ≤ m) (h2 : m ≤ 64) (i : Nat) (hi : i ≤ 6) (lf : Int) (h3 : 1 ≤ lf) : bSum m i + (bN m i - lf) < bSum m 7 := by
  have := bSum_mono m h h2 (i + 1) (6 - i)
  have e : i + 1 + (6 - i) = 7 := by omega
  rw [e] at this
  have : bSum m (i + 1) = bSum m i + bN m i := rfl
  omega

end Go.Proofs.Ytafmkalepgcnkaa
