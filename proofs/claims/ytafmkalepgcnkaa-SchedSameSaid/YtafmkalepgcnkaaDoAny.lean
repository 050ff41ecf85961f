/-
  The law AddrsDoes: its step as a whole, and what its list has to do with a table's side.
-/
import Derived.Test.YtafmkalepgcnkaaDoAdd
namespace Go.Proofs.Ytafmkalepgcnkaa
open Go.RowKit

/-- What the law's step answers, and leaves. -/
def dC (xs : List Int) (kind a : Int) : Int :=
  if a < 0 ∨ 15 < a then 3 else if kind < 2 then (if inL xs a = true then 9 else if 4 ≤ xs.length then 6 else 0) else (if inL xs a = true then (if xs.length = 1 then 16 else 0) else 8)
def dL (xs : List Int) (kind a : Int) : List Int := if dC xs kind a = 0 then (if kind < 2 then xs ++ [a] else fl xs a xs.length) else xs

theorem do_any (g : Option Addr) (c : Nat) (xs : List Int) (kind a : Int) (own : Bool) (w : World) (hr : RowC w g c xs) (h4 : xs.length ≤ 4) :
    Calls Try.prog 25 #[.slice g xs.length c, .agg #[.int .i64 kind, .bool own, .int .i64 a]] w (DoPost (dL xs kind a) (dC xs kind a) w) := by
  have keep : ∀ k, dC xs kind a = k → k ≠ 0 → dL xs kind a = xs := fun k h h0 => by unfold dL; rw [if_neg (by rw [h]; exact h0)]
  by_cases ha : a < 0 ∨ 15 < a
  · have e : dC xs kind a = 3 := by unfold dC; rw [if_pos ha]
    rw [keep 3 e (by decide), e]; exact do_out g c xs kind a own w hr ha
  · by_cases hk : kind < 2
    · cases hin : inL xs a
      · by_cases hl : 4 ≤ xs.length
        · have e : dC xs kind a = 6 := by unfold dC; rw [if_neg ha, if_pos hk, hin, if_neg (by decide), if_pos hl]
          rw [keep 6 e (by decide), e]; exact do_full g c xs kind a own w hr (by omega) (by omega) (by omega) hk hin hl
        · have e : dC xs kind a = 0 := by unfold dC; rw [if_neg ha, if_pos hk, hin, if_neg (by decide), if_neg hl]
          have e2 : dL xs kind a = xs ++ [a] := by unfold dL; rw [if_pos e, if_pos hk]
          rw [e2, e]; exact do_add g c xs kind a own w hr (by omega) (by omega) hk hin (by omega)
      · have e : dC xs kind a = 9 := by unfold dC; rw [if_neg ha, if_pos hk, if_pos hin]
        rw [keep 9 e (by decide), e]; exact do_twice g c xs kind a own w hr (by omega) (by omega) (by omega) hk hin
    · cases hin : inL xs a
      · have e : dC xs kind a = 8 := by unfold dC; rw [if_neg ha, if_neg hk, hin, if_neg (by decide)]
        rw [keep 8 e (by decide), e]; exact do_none g c xs kind a own w hr (by omega) (by omega) (by omega) (by omega) hin
      · by_cases hl : xs.length = 1
        · have e : dC xs kind a = 16 := by unfold dC; rw [if_neg ha, if_neg hk, if_pos hin, if_pos hl]
          rw [keep 16 e (by decide), e]; exact do_last g c xs kind a own w hr (by omega) (by omega) (by omega) (by omega) hin hl
        · have e : dC xs kind a = 0 := by unfold dC; rw [if_neg ha, if_neg hk, if_pos hin, if_neg hl]
          have e2 : dL xs kind a = fl xs a xs.length := by unfold dL; rw [if_pos e, if_neg hk]
          rw [e2, e]; exact do_drop g c xs kind a own w hr (by omega) (by omega) (by omega) (by omega) hin hl

/-- A list of addresses, in the order in which they came, and a table's side. -/
structure Same (xs : List Int) (S : List Bool) : Prop where
  len : S.length = 16
  mem : ∀ n : Nat, n < 16 → inL xs n = S[n]?.getD false
  range : ∀ x ∈ xs, 0 ≤ x ∧ x < 16
  once : xs.Nodup
  count : (rl S 16).length = xs.length
  few : xs.length ≤ 4

theorem Same.zero : Same [] zeros := by
  refine ⟨rfl, fun n hn => ?_, fun _ h => (List.not_mem_nil h).elim, List.nodup_nil, by decide, by decide⟩
  have : zeros[n]? = some false := by unfold zeros; rw [List.getElem?_replicate, if_pos hn]
  rw [this]; rfl

theorem Same.at {xs : List Int} {S : List Bool} (h : Same xs S) (a : Int) (ha : ¬ (a < 0 ∨ 16 ≤ a)) : S[a.toNat]?.getD false = inL xs a := by
  have := h.mem a.toNat (by omega)
  rw [← this, show ((a.toNat : Nat) : Int) = a from by omega]

theorem Same.code {xs : List Int} {S : List Bool} (h : Same xs S) (kind a : Int) : dC xs kind a = if kind < 2 then sAddC S a else sDropC S a := by
  unfold dC sAddC sDropC
  by_cases ha : a < 0 ∨ 16 ≤ a
  · rw [if_pos (show a < 0 ∨ 15 < a by omega), if_pos ha, if_pos ha]; split <;> rfl
  · rw [if_neg (show ¬ (a < 0 ∨ 15 < a) by omega), if_neg ha, if_neg ha, h.at a ha, h.count]
theorem Same.has {xs : List Int} {S : List Bool} (h : Same xs S) (a : Int) : sHas S a = inL xs a := by
  unfold sHas
  by_cases ha : a < 0 ∨ 16 ≤ a
  · rw [if_pos ha]
    cases hin : inL xs a
    · rfl
    · have := h.range a ((inL_iff xs a).1 hin); omega
  · rw [if_neg ha]; exact h.at a ha
theorem inL_single (n a : Int) : inL [a] n = (a == n) := by simp [inL]
theorem Same.add {xs : List Int} {S : List Bool} (h : Same xs S) (kind a : Int) (hk : kind < 2) : Same (dL xs kind a) (sAdd S a) := by
  have hc := h.code kind a
  rw [if_pos hk] at hc
  unfold dL sAdd
  rw [hc]
  by_cases h0 : sAddC S a = 0
  · rw [if_pos h0, if_pos h0, if_pos hk]
    obtain ⟨n, rfl, hn, hS, hlt, _⟩ := undo_in S a h0 h.len
    have hnin : inL xs (n : Int) = false := by rw [h.mem n hn, hS]; rfl
    have hl : (S.set n true).length = 16 := by rw [List.length_set]; exact h.len
    rw [Int.toNat_natCast]
    refine ⟨hl, fun m hm => ?_, fun x hx => ?_, ?_, ?_, ?_⟩
    · rw [inL_append, inL_single, h.mem m hm]
      by_cases he : n = m
      · subst he; rw [List.getElem?_set_self (by have := h.len; omega)]; simp
      · rw [List.getElem?_set_ne he]
        have : ((n : Int) == (m : Int)) = false := by rw [beq_eq_false_iff_ne]; omega
        rw [this, Bool.or_false]
    · rcases List.mem_append.1 hx with hx | hx
      · exact h.range x hx
      · simp only [List.mem_singleton] at hx; omega
    · rw [List.nodup_append]
      refine ⟨h.once, by simp, fun x hx y hy => ?_⟩
      simp only [List.mem_singleton] at hy
      subst hy
      intro e
      subst e
      rw [(inL_iff xs _).2 hx] at hnin
      cases hnin
    · rw [rl_set S n h.len hn hS, h.count, List.length_append]; rfl
    · rw [List.length_append]; have := h.count; show xs.length + 1 ≤ 4; omega
  · rw [if_neg h0, if_neg h0]; exact h

theorem filter_once (xs : List Int) (a : Int) (hn : xs.Nodup) (ha : a ∈ xs) : (xs.filter (· != a)).length + 1 = xs.length := by
  induction xs with
  | nil => cases ha
  | cons x xs ih =>
    rw [List.nodup_cons] at hn
    by_cases h : x = a
    · subst h
      have : xs.filter (· != x) = xs := List.filter_eq_self.2 (fun y hy => by
        have : y ≠ x := fun e => hn.1 (e ▸ hy)
        simpa using this)
      simp [this]
    · have h' : a ∈ xs := by rcases List.mem_cons.1 ha with e | e; exact absurd e.symm h; exact e
      have := ih hn.2 h'
      simp [h]; omega
theorem rl_unset (S : List Bool) (n : Nat) (hS : S.length = 16) (hn : n < 16) (h : S[n]? = some true) : (rl (S.set n false) 16).length + 1 = (rl S 16).length := by
  have hl : (S.set n false).length = 16 := by rw [List.length_set]; exact hS
  rw [rl_count _ _ (by omega), List.take_of_length_le (by omega), rl_count _ _ (by omega), List.take_of_length_le (by omega), List.countP_set (by omega)]
  rw [List.getElem?_eq_getElem (by omega)] at h
  simp only [Option.some.injEq] at h
  have hp : 0 < S.countP id := List.countP_pos_iff.2 ⟨S[n], List.getElem_mem _, by rw [h]; rfl⟩
  simp [h]; omega
theorem Same.drop {xs : List Int} {S : List Bool} (h : Same xs S) (kind a : Int) (hk : ¬ kind < 2) : Same (dL xs kind a) (sDrop S a) := by
  have hc := h.code kind a
  rw [if_neg hk] at hc
  unfold dL sDrop
  rw [hc]
  by_cases h0 : sDropC S a = 0
  · rw [if_pos h0, if_pos h0, if_neg hk]
    have ha : ¬ (a < 0 ∨ 16 ≤ a) := fun e => by unfold sDropC at h0; rw [if_pos e] at h0; cases h0
    obtain ⟨n, rfl⟩ : ∃ n : Nat, a = n := ⟨a.toNat, by omega⟩
    have hn : n < 16 := by omega
    have hin : inL xs (n : Int) = true := by
      rw [← h.at _ ha]
      unfold sDropC at h0
      rw [if_neg ha] at h0
      split at h0
      · assumption
      · cases h0
    have hS : S[n]? = some true := by
      have := h.mem n hn
      rw [hin, List.getElem?_eq_getElem (by have := h.len; omega)] at this
      rw [List.getElem?_eq_getElem (by have := h.len; omega)]
      simpa using this.symm
    have hl : (S.set n false).length = 16 := by rw [List.length_set]; exact h.len
    have hf : fl xs n xs.length = xs.filter (· != (n : Int)) := by unfold fl; rw [List.take_length]
    have hcnt := filter_once xs n h.once ((inL_iff xs _).1 hin)
    rw [Int.toNat_natCast, hf]
    refine ⟨hl, fun m hm => ?_, fun x hx => h.range x (List.mem_filter.1 hx).1, h.once.filter _, ?_, ?_⟩
    · by_cases he : n = m
      · subst he
        rw [List.getElem?_set_self (by have := h.len; omega)]
        cases hq : inL (xs.filter (· != (n : Int))) n
        · rfl
        · rw [inL_iff, List.mem_filter] at hq; simp at hq
      · rw [List.getElem?_set_ne he, ← h.mem m hm, Bool.eq_iff_iff, inL_iff, inL_iff, List.mem_filter]
        refine ⟨fun q => q.1, fun q => ⟨q, ?_⟩⟩
        have : (m : Int) ≠ (n : Int) := by omega
        simpa using this
    · have := rl_unset S n h.len hn hS
      have := h.count
      omega
    · have := h.few; omega
  · rw [if_neg h0, if_neg h0]; exact h

end Go.Proofs.Ytafmkalepgcnkaa
