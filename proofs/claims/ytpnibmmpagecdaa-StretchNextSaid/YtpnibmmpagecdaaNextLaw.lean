/-
  The law StretchNext, walked: it returns true and leaves all that was there as it was. The callees by their contracts.
-/
import Derived.Test.YtpnibmmpagecdaaStretchLaws
import Derived.Deep.QuietTactic
import Derived.BigQuiet
namespace Go.Proofs.Ytpnibmmpagecdaa
open Go.RowKit

/-- A slice's elements can be read. -/
def RowAt (w : World) (g : Option Addr) (xs : List Int) : Prop :=
  xs = [] ∨ ∃ b, g = some ⟨b, 0, none⟩ ∧ b < w.heap.size ∧ ∀ j, j < xs.length → w.cell? ⟨b, j, none⟩ = some (.int .i64 (xs[j]?.getD 0))

theorem rowAt_of {w : World} {B n cap : Nat} {g : Option Addr} {xs : List Int} (h : w.ownsRow B 3 1 (.slice g n cap) n (xs.map (Value.int .i64))) : RowAt w g xs := by
  rcases h.2 with ⟨hv, hn⟩ | ⟨b, cap', cur, hv, hb, hg, rest⟩
  · left
    have := h.1
    subst hn
    simpa using this
  · right
    simp only [Value.slice.injEq] at hv
    obtain ⟨rfl, _, rfl⟩ := hv
    refine ⟨b, rfl, (Array.getElem?_eq_some_iff.1 hg).1, fun j hj => ?_⟩
    have := h.cells (g := b) rfl j (.int .i64 (xs[j]?.getD 0)) (by simp [List.getElem?_eq_getElem hj])
    rw [Addr.add_lit] at this
    simpa using this

theorem RowAt.later {w w' : World} {g : Option Addr} {xs : List Int} (h : RowAt w g xs) (hb : Below w.heap.size w w') : RowAt w' g xs := by
  rcases h with h | ⟨b, rfl, hl, hc⟩
  · exact .inl h
  · exact .inr ⟨b, rfl, Nat.lt_of_lt_of_le hl hb.size, fun j hj => (hb.cell (p := ⟨b, j, none⟩) hl).trans (hc j hj)⟩

theorem below_drewN {B : Nat} {a w : World} (n : Nat) (h : Below B a w) : Below B a (w.drewN n) := h.trans ⟨rfl, rfl, rfl, Nat.le_refl _, fun _ _ => rfl⟩

def NextLeft (a : Int) (n : Nat) (w : World) (e : Ending) (w' : World) : Prop :=
  ∃ (g : Option Addr) (cap : Nat), e = .returned (.slice g n cap) ∧ RowAt w' g (sNx a n) ∧ Below w.heap.size w w'

theorem next_left {start short many a : Int} {N : Nat} (ha : sFirst start short = a) (hN : sCount many = N) (w : World) : Calls Try.prog 27 #[.int .i64 start, .int .i64 short, .int .i64 many] w (NextLeft a N w) := by
  subst ha hN
  exact (next_any start short many w).mono fun e w' ⟨g, cap, he, hown, hb⟩ => ⟨g, cap, he, rowAt_of hown, hb⟩
theorem rnext_left {start short many a : Int} {N : Nat} (ha : sFirst start short = a) (hN : sCount many = N) (w : World) : Calls Try.prog 28 #[.int .i64 start, .int .i64 short, .int .i64 many] w (NextLeft a N w) := by
  subst ha hN
  exact (rnext_any start short many w).mono fun e w' ⟨g, cap, he, hown, hb⟩ => ⟨g, cap, he, rowAt_of hown, hb⟩

theorem quietly {f : FuncId} {args : Array Value} {w : World} {v : Value} (h : Calls Try.prog f args w fun e w' => e = .returned v ∧ w = w') : Calls Try.prog f args w fun e w' => e = .returned v ∧ w' = w :=
  h.mono fun _ _ ⟨h1, h2⟩ => ⟨h1, h2.symm⟩

/-- One element of both lists. -/
theorem rowAt_get {w : World} {g : Option Addr} {a : Int} {N k : Nat} (h : RowAt w g (sNx a N)) (hk : k < N) : ∃ b, g = some ⟨b, 0, none⟩ ∧ w.cell? ⟨b, k, none⟩ = some (.int .i64 (cOf (a + (k : Int) * 16777216))) := by
  rcases h with h | ⟨b, hg, _, hc⟩
  · have := sNx_length a N; rw [h] at this; simp at this; omega
  · refine ⟨b, hg, ?_⟩
    rw [hc k (by rw [sNx_length]; exact hk), sNx_get a N k hk]; rfl

set_option maxHeartbeats 1600000 in
theorem snext_any (start short many : Int) (w : World) : Calls Try.prog 7 #[.int .i64 start, .int .i64 short, .int .i64 many] w fun e w' => e = .returned (.bool true) ∧ Below w.heap.size w w' := by
  have hnear := Lib.hid (next_near start short)
  have hsh := fun i => Lib.hid (next_short start short i)
  obtain ⟨N, HN⟩ : ∃ N, Hid (sCount many = N) := ⟨_, Lib.hid rfl⟩
  obtain ⟨a, HA⟩ : ∃ a, Hid (sFirst start short = a) := ⟨_, Lib.hid rfl⟩
  have hN : N ≤ 100 := by have := HN.out; unfold sCount at this; omega
  rw [HA.out] at hsh
  go_enter Try.func7, Try.ntmps7
  go_wp2_with (first
    | (go_at_call 26; refine (works03 _).mono ?_; rintro e w0 ⟨rfl, hb0⟩)
    | (go_at_call 27; refine (next_left HA.out HN.out _).mono ?_; rintro e w1 ⟨g1, cap1, rfl, hr1, hb1⟩)
    | (go_at_call 28; refine (rnext_left HA.out HN.out _).mono ?_; rintro e w2 ⟨g2, cap2, rfl, hr2, hb2⟩))
  replace hr1 := hr1.later hb2
  have hb := (hb0.trans (hb1.mono hb0.size)).trans (hb2.mono (Nat.le_trans hb0.size hb1.size))
  clear hb0 hb1 hb2
  go_loopw [9] (fun t wr => ∃ k : Nat, k ≤ N ∧ t = .int .i64 k ∧ RowAt wr g1 (sNx a N) ∧ RowAt wr g2 (sNx a N) ∧ Below w.heap.size w wr) (fun t _ => N - (intOf t).toNat)
  case atStart => exact ⟨0, Nat.zero_le _, rfl, hr1, hr2, hb⟩
  case round =>
    clear hr1 hr2 hb
    obtain ⟨k, hk, rfl, hr1, hr2, hb⟩ := hrel
    by_cases hlt : k < N
    · obtain ⟨c1, hg1, hc1⟩ := rowAt_get hr1 hlt
      obtain ⟨c2, hg2, hc2⟩ := rowAt_get hr2 hlt
      have hsk := (hsh k).out
      generalize cOf (a + (k : Int) * 16777216) = x at *
      subst hg1 hg2
      have hlt' : (k : Int) < (N : Int) := by omega
      go_wp2
      go_quiet ((go_at_call 29; exact Calls.quiet_of_same (quietly (short_any _ _))))
      go_wp2
      go_roundw
      case rel => exact ⟨k + 1, by omega, by go_num, hr1.later (below_drewN _ (Below.refl _ _)), hr2.later (below_drewN _ (Below.refl _ _)), below_drewN _ hb⟩
      case measure => simp [intOf]; omega
    · obtain rfl : k = N := by omega
      clear hr1 hr2
      go_wp2_with (first
        | (go_at_call 19; refine (radd_any _ _ _).mono ?_; rintro e w' ⟨rfl, rfl⟩)
        | (go_at_call 27; refine (next_left (N := 1) rfl (by decide) _).mono ?_; rintro e w3 ⟨g3, cap3, rfl, hr3, hb3⟩))
      obtain ⟨c3, hg3, hc3⟩ := rowAt_get hr3 (k := 0) (by omega)
      simp only [Int.ofNat_zero, Int.zero_mul, Int.add_zero] at hc3
      have hx := hnear.out
      have hx' : cOf (sFirst (cOf (start + -8388607)) short) = sLong start short := by simpa [sNx] using hx
      rw [hx'] at hc3
      clear hx hx'
      generalize hL : sLong start short = y at *
      subst hg3
      go_quiet ((go_at_call 30; exact Calls.quiet_of_same (quietly (long_any _ _ _))))
      go_wp2
      go_ret
      exact ⟨rfl, below_drewN _ (hb.trans (hb3.mono hb.size))⟩

end Go.Proofs.Ytpnibmmpagecdaa
