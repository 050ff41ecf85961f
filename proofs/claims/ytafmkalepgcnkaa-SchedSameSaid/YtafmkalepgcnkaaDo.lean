/-
  The law AddrsDoes: its own small functions, walked.
-/
import Derived.Test.YtafmkalepgcnkaaUndo
namespace Go.Proofs.Ytafmkalepgcnkaa
open Go.RowKit

/-- Is an address in a list? -/
def inL (xs : List Int) (a : Int) : Bool := xs.any (· == a)
theorem inL_iff (xs : List Int) (a : Int) : inL xs a = true ↔ a ∈ xs := by
  unfold inL; rw [List.any_eq_true]
  exact ⟨fun ⟨x, hx, he⟩ => by rw [beq_iff_eq] at he; exact he ▸ hx, fun h => ⟨a, h, by simp⟩⟩
theorem inL_append (xs ys : List Int) (a : Int) : inL (xs ++ ys) a = (inL xs a || inL ys a) := by unfold inL; rw [List.any_append]
theorem inL_step (xs : List Int) (a : Int) (k : Nat) (hk : k < xs.length) : inL (xs.take (k + 1)) a = (inL (xs.take k) a || (xs[k]?.getD 0 == a)) := by
  rw [List.take_add_one, List.getElem?_eq_getElem hk, inL_append]
  simp [inL]
theorem inL_of_take (xs : List Int) (a : Int) (k : Nat) (h : inL (xs.take k) a = true) : inL xs a = true := by
  rw [inL_iff] at *
  exact List.mem_of_mem_take h

set_option maxHeartbeats 800000 in
theorem inList_any (g : Option Addr) (c : Nat) (xs : List Int) (a : Int) (w : World) (h0 : RowIn w g xs) (l0 : xs.length ≤ 9223372036854775807) :
    Calls Try.prog 29 #[.slice g xs.length c, .int .i64 a] w fun e w' => e = .returned (.bool (inL xs a)) ∧ w = w' := by
  go_enter Try.func29, Try.ntmps29
  go_wp2
  go_loop [5] (fun t => ∃ k : Nat, k ≤ xs.length ∧ t = .int .i64 k ∧ Hid (inL (xs.take k) a = false)) (fun t => xs.length - (intOf t).toNat)
  case atStart => exact ⟨0, Nat.zero_le _, rfl, rfl⟩
  case round =>
    obtain ⟨k, hk, rfl, hn⟩ := hrel
    by_cases hlt : k < xs.length
    · obtain ⟨b0, o0, e0, c0⟩ := h0.get hlt
      have hlt' : (k : Int) < (xs.length : Int) := by omega
      have HS := Lib.hid (inL_step xs a k hlt)
      have HC := Lib.hid (inL_of_take xs a (k + 1))
      generalize xs[k]?.getD 0 = x at *
      subst e0
      clear h0
      by_cases hx : x = a
      · have HT : Hid (inL xs a = true) := Lib.hid (HC.out (by rw [HS.out, hx]; simp))
        have hx' : (x == a) = true := by rw [beq_iff_eq]; exact hx
        clear hx HS HC
        go_wp2
        go_ret
        exact ⟨ret_bool HT.out.symm, rfl⟩
      · have HT : Hid (inL (xs.take (k + 1)) a = false) := Lib.hid (by rw [HS.out, hn.out, Bool.false_or, beq_eq_false_iff_ne]; exact hx)
        have hx' : (x == a) = false := by rw [beq_eq_false_iff_ne]; exact hx
        clear hx HS HC
        go_wp2
        go_round
        case rel => exact ⟨k + 1, by omega, by go_num, HT⟩
        case measure => simp [intOf]; omega
    · obtain rfl : k = xs.length := by omega
      have HT : Hid (inL xs a = false) := Lib.hid (by have := hn.out; rwa [List.take_length] at this)
      go_wp2
      go_ret
      exact ⟨ret_bool HT.out.symm, rfl⟩

set_option maxHeartbeats 1000000 in
theorem rising_any (g : Option Addr) (c : Nat) (xs : List Int) (S : List Bool) (w : World) (h0 : RowIn w g xs) (l0 : xs.length ≤ 9223372036854775807) (hS : ∀ i : Nat, i < 16 → inL xs i = S[i]?.getD false) :
    Calls Try.prog 31 #[.slice g xs.length c] w (ListPost w.heap.size (rl S 16) (rl S 16).length w) := by
  obtain ⟨i0, hi, hz0, hz1, hz2⟩ := info_parts Try.info3
  have HSS := Lib.hid hS
  clear hS
  go_enter Try.func31, Try.ntmps31
  go_wp2
  go_loopw [3, 4] (fun v t wr => ∃ k : Nat, k ≤ 16 ∧ t = .int .i64 k ∧ wr.ownsRow w.heap.size 3 1 v (rl S k).length ((rl S k).map (Value.int .i64)) ∧ Below w.heap.size w wr) (fun _ t _ => 16 - (intOf t).toNat)
  case atStart => exact ⟨0, Nat.zero_le _, rfl, World.ownsRow_nil _ _ _ _, Below.refl _ _⟩
  case round =>
    obtain ⟨k, hk, rfl, hown, hnx⟩ := hrel
    have hs := hnx.size
    have hle := rl_le S k
    by_cases hlt : k < 16
    · have hlt' : (k : Int) < 16 := by omega
      have hv := HSS.out k hlt
      have HR := Lib.hid (h0.later hnx)
      clear h0
      cases hb : S[k]?.getD false
      · rw [hb] at hv
        have HB := Lib.hid (rl_miss S k hb)
        clear hb
        go_wp2_with (go_at_call 29; refine (inList_any _ _ xs _ _ HR.out l0).mono ?_; rintro e w' ⟨rfl, rfl⟩)
        go_roundw
        case rel => exact ⟨k + 1, by omega, by go_num, by rw [HB.out]; exact hown, hnx⟩
        case measure => simp [intOf]; omega
      · rw [hb] at hv
        have HB := Lib.hid (rl_hit S k hb)
        clear hb
        go_wp2_with (first
          | (go_at_call 29; refine (inList_any _ _ xs _ _ HR.out l0).mono ?_; rintro e w' ⟨rfl, rfl⟩)
          | (at_builtin; refine wpList_append_own _ rfl _ _ 23 rfl w.heap.size 3 i0 (.int .i64 0) 1 8 Try.underlying23 hi hz0 hz1 hz2 rfl (by decide) _ _ _ rfl (hown.alloc _) ⟨wr.heap.size, 0, none⟩ 1 1 [.int .i64 (k : Int)] rfl rfl ?c1 ?c2 ?c3 ?c4 ?c5 ?_))
        case c1 =>
          intro j u hj
          match j, hj with
          | 0, hj => simp at hj; subst hj; simp [Addr.add]
        case c2 => intro u hu; simp at hu; subst hu; rfl
        case c3 => unfold maxLen; omega
        case c4 => omega
        case c5 => simp; omega
        intro v' w1 hown' hgrow _
        have R := own_snoc hs hown hnx hown' hgrow
        clear hown' hgrow hown hnx hv
        go_wp2
        go_roundw
        case rel => exact ⟨k + 1, by omega, by go_num, by rw [HB.out, List.length_append]; exact R.1, R.2⟩
        case measure => simp [intOf]; omega
    · obtain rfl : k = 16 := by omega
      go_wp2
      go_ret
      exact list_post hown hnx

/-- A list of the law's own, as it is kept. -/
def RowC (w : World) (g : Option Addr) (c : Nat) (xs : List Int) : Prop :=
  (g = none ∧ c = 0 ∧ xs = []) ∨ ∃ b cur, g = some ⟨b, 0, none⟩ ∧ w.heap[b]? = some (.cells cur 3 (0, 0)) ∧ ∀ j, j < xs.length → cur[j]? = some (.int .i64 (xs[j]?.getD 0))
section
variable {w w' : World} {g : Option Addr} {c : Nat} {xs : List Int}
theorem RowC.row3 (h : RowC w g c xs) : Row3 w g xs := by
  rcases h with ⟨_, _, h⟩ | h
  · exact .inl h
  · exact .inr h
theorem RowC.later (h : RowC w g c xs) (hb : Below w.heap.size w w') : RowC w' g c xs := by
  rcases h with h | ⟨b, cur, rfl, hh, hc⟩
  · exact .inl h
  · exact .inr ⟨b, cur, rfl, (hb.block b (lt_block hh)).trans hh, hc⟩
theorem RowC.tab {b : Nat} {O R : List Bool} (h : RowC w g c xs) (hT : TabAt w b O R) (hg : w.grownBy w' (some b)) : RowC w' g c xs := by
  rcases h with h | h
  · exact .inl h
  · obtain ⟨b', cur, rfl, hh, hc⟩ := h
    refine .inr ⟨b', cur, rfl, ?_, hc⟩
    rw [hg.block b' (lt_block hh) ?_]; exact hh
    intro e
    simp only [Option.some.injEq] at e
    subst e
    have := hT.block
    rw [hh] at this
    simp at this
theorem RowC.arg (h : RowC w g c xs) : RowArg w g c xs := by
  rcases h with h | ⟨b, cur, rfl, hh, hc⟩
  · exact .inl h
  · exact .inr ⟨_, rfl, fun j hj => by rw [Addr.add_lit, Nat.zero_add, cell_of_row _ _ _ _ _ _ hh]; exact hc j hj⟩
end
theorem RowC.of {w : World} {B n : Nat} {v : Value} {xs : List Int} (h : w.ownsRow B 3 1 v n (xs.map (Value.int .i64))) : ∃ g c, v = .slice g n c ∧ RowC w g c xs ∧ n = xs.length := by
  have hn : n = xs.length := by have := h.1; simp at this; omega
  rcases h.2 with ⟨rfl, rfl⟩ | ⟨g, cap, cur, rfl, hr⟩
  · exact ⟨none, 0, rfl, .inl ⟨rfl, rfl, by simpa using h.1⟩, hn⟩
  · refine ⟨_, cap, rfl, .inr ⟨g, cur, rfl, hr.2.1, fun j hj => ?_⟩, hn⟩
    have := h.cells (g := g) rfl j (.int .i64 (xs[j]?.getD 0)) (by simp [List.getElem?_eq_getElem hj])
    rw [Addr.add_lit, Nat.zero_add, cell_of_row _ _ _ _ _ _ hr.2.1] at this
    exact this

/-- What the law's step leaves. -/
def DoPost (xs : List Int) (code : Int) (w : World) (e : Ending) (w' : World) : Prop :=
  ∃ (g : Option Addr) (c : Nat), e = .returned (.tuple #[.slice g xs.length c, .int .i64 code]) ∧ RowC w' g c xs ∧ Below w.heap.size w w'

end Go.Proofs.Ytafmkalepgcnkaa
