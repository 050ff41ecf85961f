/-
  Package addrs: what a table's block holds; a side's addresses as a list.
-/
import Derived.Test.YtafmkalepgcnkaaBackTicks
import Derived.Great.Ranges
import Derived.Deep.MidRow
namespace Go.Proofs.Ytafmkalepgcnkaa
open Go.RowKit

theorem cells69 : (Try.prog.info? 69).map (·.size) = some 16 := by kernel_rfl
theorem size4 : (Try.prog.info? 4).map (·.size) = some 1 := by kernel_rfl

/-- A side, as a value. -/
def sideV (S : List Bool) : Array Value := (S.map Value.bool).toArray

theorem run_index_side (S : List Bool) (hS : S.length = 16) (k : Nat) (hk : k < 16) (w : World) : (Instr.index 69 (.agg (sideV S)) (.int .i64 k)).run Try.prog w = .ok (.bool (S[k]?.getD false)) w := by
  have h4 := size4
  cases hq : Try.prog.info? 4 with
  | none => rw [hq] at h4; cases h4
  | some i =>
    rw [hq] at h4
    simp only [Option.map_some, Option.some.injEq] at h4
    have hu := Try.underlying69
    have hg : (sideV S)[k]? = some (.bool (S[k]?.getD false)) := by
      simp [sideV, List.getElem?_eq_getElem (show k < S.length by omega)]
    simp [Instr.index, run_underlying hu, sizeOf, typeInfo, hq, h4, asIntOf, part, go_sem, hk, hg]

/-- A side's addresses, rising, those below k. -/
def rl (S : List Bool) (k : Nat) : List Int := ((List.range k).filter fun i => S[i]?.getD false).map fun (i : Nat) => (i : Int)
theorem rl_zero (S : List Bool) : rl S 0 = [] := rfl
theorem rl_succ (S : List Bool) (k : Nat) : rl S (k + 1) = rl S k ++ (if S[k]?.getD false then [(k : Int)] else []) := by
  unfold rl
  rw [List.range_succ, List.filter_append, List.map_append]
  congr 1
  cases h : S[k]?.getD false <;> simp [h]
theorem rl_hit (S : List Bool) (k : Nat) (h : S[k]?.getD false = true) : rl S (k + 1) = rl S k ++ [(k : Int)] := by rw [rl_succ, h]; rfl
theorem rl_miss (S : List Bool) (k : Nat) (h : S[k]?.getD false = false) : rl S (k + 1) = rl S k := by rw [rl_succ, h]; simp
theorem rl_le (S : List Bool) (k : Nat) : (rl S k).length ≤ k := by
  unfold rl; rw [List.length_map]; exact Nat.le_trans (List.length_filter_le _ _) (by simp)

set_option maxHeartbeats 1000000 in
theorem all_any (S : List Bool) (hS : S.length = 16) (w : World) : Calls Try.prog 40 #[.agg (sideV S)] w (ListPost w.heap.size (rl S 16) (rl S 16).length w) := by
  obtain ⟨i0, hi, hz0, hz1, hz2⟩ := info_parts Try.info3
  have hsz : (sideV S).size = 16 := by simp [sideV, hS]
  have hrun := run_index_side S hS
  generalize sideV S = A at *
  go_enter Try.func40, Try.ntmps40
  go_wp2_with (first
    | (refine Great.wpList_boxTo rfl 69 _ rfl (some 1) rfl _ rfl A ?hx ?_)
    | (refine wpList_load_row rfl 69 _ rfl w.heap.size rfl 69 A (0, 0) _ (heap_alloc_new w _) Try.underlying69 rfl (cells69.trans (by rw [hsz])) ?_))
  case hx => rfl
  go_loopw [3, 7] (fun v t wr => ∃ k : Nat, k ≤ 16 ∧ t = .int .i64 k ∧ wr.ownsRow w.heap.size 3 1 v (rl S k).length ((rl S k).map (Value.int .i64)) ∧ Below w.heap.size w wr) (fun _ t _ => 16 - (intOf t).toNat)
  case atStart => exact ⟨0, Nat.zero_le _, rfl, World.ownsRow_nil _ _ _ _, (Below.refl _ _).alloc (Nat.le_refl _) _⟩
  case round =>
    obtain ⟨k, hk, rfl, hown, hnx⟩ := hrel
    have hs := hnx.size
    have hle := rl_le S k
    by_cases hlt : k < 16
    · have hlt' : (k : Int) < 16 := by omega
      have hr := hrun k hlt
      clear hrun
      cases hb : S[k]?.getD false
      · rw [hb] at hr
        have HB := Lib.hid (rl_miss S k hb)
        clear hb
        go_wp2
        go_roundw
        case rel => exact ⟨k + 1, by omega, by go_num, by rw [HB.out]; exact hown, hnx⟩
        case measure => simp [intOf]; omega
      · rw [hb] at hr
        have HB := Lib.hid (rl_hit S k hb)
        clear hb
        go_wp2_with (at_builtin; refine wpList_append_own _ rfl _ _ 23 rfl w.heap.size 3 i0 (.int .i64 0) 1 8 Try.underlying23 hi hz0 hz1 hz2 rfl (by decide) _ _ _ rfl (hown.alloc _) ⟨wr.heap.size, 0, none⟩ 1 1 [.int .i64 (k : Int)] rfl rfl ?c1 ?c2 ?c3 ?c4 ?c5 ?_)
        case c1 =>
          intro j u hj
          match j, hj with
          | 0, hj => simp at hj; subst hj; simp [Addr.add]
        case c2 => intro u hu; simp at hu; subst hu; rfl
        case c3 => unfold maxLen; omega
        case c4 => omega
        case c5 => simp; omega
        intro v' w1 hown' hgrow _
        have R := own_snoc hs hown hnx hown' hgrow
        clear hown' hgrow hown hnx hr
        go_wp2
        go_roundw
        case rel => exact ⟨k + 1, by omega, by go_num, by rw [HB.out, List.length_append]; exact R.1, R.2⟩
        case measure => simp [intOf]; omega
    · obtain rfl : k = 16 := by omega
      clear hrun
      go_wp2
      go_ret
      exact list_post hown hnx

end Go.Proofs.Ytafmkalepgcnkaa
