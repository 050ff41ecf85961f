/-
  The laws' own comparison of two lists, where they are the same.
-/
import Derived.Test.YtafmkalepgcnkaaPlacesLaw
import Derived.Laws.AppendOwnNone
namespace Go.Proofs.Ytafmkalepgcnkaa
open Go.RowKit

set_option maxHeartbeats 1000000 in
theorem ints_same (g0 g1 : Option Addr) (c0 c1 : Nat) (xs : List Int) (w : World) (h0 : RowIn w g0 xs) (h1 : RowIn w g1 xs) (l0 : xs.length ≤ 9223372036854775807) :
    Calls Try.prog 30 #[.slice g0 xs.length c0, .slice g1 xs.length c1] w fun e w' => e = .returned (.bool true) ∧ Below w.heap.size w w' := by
  go_enter Try.func30, Try.ntmps30
  go_wp2
  go_loopw [5] (fun t wr => ∃ k : Nat, k ≤ xs.length ∧ t = .int .i64 k ∧ Below w.heap.size w wr) (fun t _ => xs.length - (intOf t).toNat)
  case atStart => exact ⟨0, Nat.zero_le _, rfl, Below.refl _ _⟩
  case round =>
    obtain ⟨k, hk, rfl, hb⟩ := hrel
    by_cases hlt : k < xs.length
    · obtain ⟨b0, o0, e0, c0⟩ := (h0.later hb).get hlt
      obtain ⟨b1, o1, e1, c1⟩ := (h1.later hb).get hlt
      have hlt' : (k : Int) < (xs.length : Int) := by omega
      generalize xs[k]?.getD 0 = x at *
      subst e0 e1
      clear h0 h1
      go_wp2
      go_quiet (fail)
      go_wp2
      go_roundw
      case rel => exact ⟨k + 1, by omega, by go_num, below_drewN _ hb⟩
      case measure => simp [intOf]; omega
    · obtain rfl : k = xs.length := by omega
      go_wp2
      go_ret
      exact ⟨rfl, hb⟩

/-- A slice of integers that came in, as it is appended. -/
def RowArg (w : World) (g : Option Addr) (c : Nat) (xs : List Int) : Prop :=
  (g = none ∧ c = 0 ∧ xs = []) ∨ ∃ x, g = some x ∧ ∀ j, j < xs.length → w.cell? (x.add j) = some (.int .i64 (xs[j]?.getD 0))

theorem RowArg.later {w w' : World} {g : Option Addr} {c : Nat} {xs : List Int} (h : RowArg w g c xs) (hb : Below w.heap.size w w') : RowArg w' g c xs := by
  rcases h with h | ⟨x, rfl, hc⟩
  · exact .inl h
  · exact .inr ⟨x, rfl, fun j hj => (hb.cell (World.block_lt_of_cell? w _ (hc j hj))).trans (hc j hj)⟩
theorem RowArg.row {w : World} {g : Option Addr} {c : Nat} {xs : List Int} (h : RowArg w g c xs) : RowIn w g xs := by
  rcases h with ⟨_, _, rfl⟩ | ⟨x, rfl, hc⟩
  · exact .inl rfl
  · by_cases h0 : xs = []
    · exact .inl h0
    · have h1 : 0 < xs.length := List.length_pos_iff.2 h0
      obtain ⟨b, off, spot⟩ := x
      have hc0 := hc 0 h1
      have hspot : spot = none := by simpa [Addr.add] using World.cell?_spot hc0
      subst hspot
      refine .inr ⟨b, off, rfl, World.block_lt_of_cell? w _ hc0, fun j hj => ?_⟩
      rw [← Addr.add_lit]; exact hc j hj

/-- An append of such a slice to one of the call's own, whether it is nil or not. -/
theorem wpList_append_src {w : World} {ops : Array Oper} {rest : List Oper} {o : Oper} {a : Act} {Q : Exit → Act → World → Prop} (hgd : o.guard = none) (s x : Operand)
    (ho : o.op = .call { callee := .builtin .append, args := #[s, x], argTypes := #[23, 23] }) (base : Nat)
    (v : Value) (n : Nat) (xs : List Value) (hs : a.eval s = v) (hown : w.ownsRow base 3 1 v n xs) (g : Option Addr) (c : Nat) (news : List Int) (hx : a.eval x = .slice g news.length c) (hr : RowArg w g c news)
    (hlim : n + news.length ≤ 1000) (hbase : base ≤ w.heap.size)
    (h : ∀ v' w', w'.ownsRow base 3 1 v' (n + news.length) (xs ++ news.map (Value.int .i64)) → w.grownBy w' v.ownBlock → wpList Try.prog ops Q rest (a.put o.dst v') w') : wpList Try.prog ops Q (o :: rest) a w := by
  obtain ⟨i0, hi, hz0, hz1, hz2⟩ := info_parts Try.info3
  rcases hr with ⟨rfl, rfl, rfl⟩ | ⟨ad, rfl, hc⟩
  · refine wpList_append_own_none hgd s x 23 ho base 3 i0 1 Try.underlying23 hi v n xs hs hown hx ?_
    exact h v w (by simpa using hown) (grownBy_refl _ _)
  · refine wpList_append_own w hgd s x 23 ho base 3 i0 (.int .i64 0) 1 8 Try.underlying23 hi hz0 hz1 hz2 rfl (by decide) v n xs hs hown ad news.length c (news.map (Value.int .i64)) hx (by simp) (fun j u hu => ?_) (fun u hu => ?_) (by unfold maxLen; omega) (by omega) hbase (fun v' w' h2 h3 _ => h v' w' h2 h3)
    · rw [List.getElem?_map] at hu
      have hj : j < news.length := by
        rcases Nat.lt_or_ge j news.length with h' | h'
        · exact h'
        · rw [List.getElem?_eq_none h'] at hu; cases hu
      rw [hc j hj]
      rw [List.getElem?_eq_getElem hj] at hu ⊢
      simpa using hu
    · simp only [List.mem_map] at hu
      obtain ⟨n', _, rfl⟩ := hu
      rfl

end Go.Proofs.Ytafmkalepgcnkaa
