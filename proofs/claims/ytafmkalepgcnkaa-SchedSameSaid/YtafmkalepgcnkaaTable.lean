/-
  Walks over package addrs: a table's methods, each once, by a contract.
-/
import Derived.Test.YtafmkalepgcnkaaTab
namespace Go.Proofs.Ytafmkalepgcnkaa
open Go.RowKit

/-- A table stands in block b: the own side's addresses, and the other's. -/
structure TabAt (w : World) (b : Nat) (O R : List Bool) : Prop where
  block : w.heap[b]? = some (.cells (sideV (O ++ R)) 71 (0, 0))
  lo : O.length = 16
  lr : R.length = 16

def sideOf (own : Bool) (O R : List Bool) : List Bool := if own then O else R
def sOff (own : Bool) : Nat := if own then 0 else 16
def cnt (S : List Bool) : Nat := (rl S 16).length
def setO (own : Bool) (O : List Bool) (n : Nat) (v : Bool) : List Bool := if own then O.set n v else O
def setR (own : Bool) (R : List Bool) (n : Nat) (v : Bool) : List Bool := if own then R else R.set n v

section
variable {w w' : World} {b : Nat} {O R : List Bool}
theorem TabAt.len (h : TabAt w b O R) (own : Bool) : (sideOf own O R).length = 16 := by cases own <;> first | exact h.lr | exact h.lo
theorem TabAt.cell (h : TabAt w b O R) (own : Bool) (n : Nat) (hn : n < 16) : w.cell? ⟨b, sOff own + n, none⟩ = some (.bool ((sideOf own O R)[n]?.getD false)) := by
  have h1 := h.lo
  have h2 := h.lr
  rw [cell_of_row _ _ _ _ _ _ h.block]
  unfold sideV
  cases own
  · simp only [sOff, sideOf, Bool.false_eq_true, if_false, List.getElem?_toArray, List.getElem?_map]
    rw [List.getElem?_append_right (by omega), show 16 + n - O.length = n from by omega, List.getElem?_eq_getElem (by omega)]
    rfl
  · simp only [sOff, sideOf, if_true, List.getElem?_toArray, List.getElem?_map, Nat.zero_add]
    rw [List.getElem?_append_left (by omega), List.getElem?_eq_getElem (by omega)]
    rfl
theorem TabAt.free (h : TabAt w b O R) (o : Nat) : w.frozen? ⟨b, o, none⟩ = false := frozen_of_row _ _ _ _ _ h.block
theorem TabAt.range (h : TabAt w b O R) (own : Bool) : w.rangeAt b (sOff own) ((sideOf own O R).map Value.bool) := by
  intro j v hv
  have hl := h.len own
  rw [List.getElem?_map] at hv
  have hj : j < 16 := by
    rcases Nat.lt_or_ge j 16 with h' | h'
    · exact h'
    · rw [List.getElem?_eq_none (by omega)] at hv; cases hv
  rw [h.cell own j hj]
  rw [List.getElem?_eq_getElem (by omega)] at hv ⊢
  simpa using hv
theorem TabAt.kept (h : TabAt w b O R) {row : Option Nat} (hg : w.grownBy w' row) (hne : some b ≠ row) : TabAt w' b O R :=
  ⟨(hg.block b (lt_block h.block) hne).trans h.block, h.lo, h.lr⟩
theorem TabAt.below (h : TabAt w b O R) (hg : Below w.heap.size w w') : TabAt w' b O R :=
  ⟨(hg.block b (lt_block h.block)).trans h.block, h.lo, h.lr⟩
theorem TabAt.set (h : TabAt w b O R) (own : Bool) (n : Nat) (hn : n < 16) (v : Bool) : TabAt (w.setCell ⟨b, sOff own + n, none⟩ (.bool v)) b (setO own O n v) (setR own R n v) := by
  have h1 := h.lo
  have h2 := h.lr
  refine ⟨?_, by unfold setO; split <;> simp [h1], by unfold setR; split <;> simp [h2]⟩
  rw [row_setCell _ h.block]
  congr 2
  unfold sideV setO setR sOff
  cases own
  · simp only [Bool.false_eq_true, if_false, List.setIfInBounds_toArray]
    rw [← List.map_set, List.set_append_right _ _ (by omega), show 16 + n - O.length = n from by omega]
  · simp only [if_true, List.setIfInBounds_toArray, Nat.zero_add]
    rw [← List.map_set, List.set_append_left _ _ (by omega)]
end

theorem grownBy_refl (w : World) (row : Option Nat) : w.grownBy w row := ⟨rfl, rfl, rfl, Nat.le_refl _, fun _ _ _ => rfl⟩
theorem grownBy_of_below {w w' : World} (h : Below w.heap.size w w') (row : Option Nat) : w.grownBy w' row := ⟨h.os, h.tape, h.output, h.size, fun k hk _ => h.block k hk⟩
theorem grownBy_set {w w' : World} {b o : Nat} (h : Below w.heap.size w w') (v : Value) : w.grownBy (w'.setCell ⟨b, o, none⟩ v) (some b) :=
  ⟨h.os, h.tape, h.output, by simpa [World.setCell] using h.size, fun k hk hne => (Below.heap_setCell _ _ _ _ (fun e => hne (by rw [e]))).trans (h.block k hk)⟩

theorem of_any (b : Nat) (own : Bool) (w : World) : Calls Try.prog 39 #[.pointer (some ⟨b, 0, none⟩), .bool own] w fun e w' => e = .returned (.pointer (some ⟨b, sOff own, none⟩)) ∧ w = w' := by
  cases own
  all_goals
    go_enter Try.func39, Try.ntmps39
    go_wp2
    go_ret
    exact ⟨rfl, rfl⟩

theorem right_nil (a : Int) (w : World) : Calls Try.prog 41 #[.pointer none, .int .i64 a] w fun e w' => e = .returned (.int .i64 10) ∧ w = w' := by
  go_enter Try.func41, Try.ntmps41
  go_wp2
  go_ret
  exact ⟨rfl, rfl⟩
theorem right_in (b n : Nat) (hn : n < 16) (w : World) : Calls Try.prog 41 #[.pointer (some ⟨b, 0, none⟩), .int .i64 (n : Int)] w fun e w' => e = .returned (.int .i64 0) ∧ w = w' := by
  have h1 : (0 : Int) ≤ n := by omega
  have h2 : (n : Int) < 16 := by omega
  go_enter Try.func41, Try.ntmps41
  go_wp2
  go_ret
  exact ⟨rfl, rfl⟩
theorem right_out (b : Nat) (a : Int) (ha : a < 0 ∨ 16 ≤ a) (w : World) : Calls Try.prog 41 #[.pointer (some ⟨b, 0, none⟩), .int .i64 a] w fun e w' => e = .returned (.int .i64 3) ∧ w = w' := by
  rcases ha with h | h
  all_goals
    go_enter Try.func41, Try.ntmps41
    go_wp2
    go_ret
    exact ⟨rfl, rfl⟩

/-- What a call leaves that may write the table. -/
def TabPost (b : Nat) (c : Int) (O R : List Bool) (w : World) (e : Ending) (w' : World) : Prop := e = .returned (.int .i64 c) ∧ TabAt w' b O R ∧ w.grownBy w' (some b)

theorem add_nil (own : Bool) (a : Int) (w : World) : Calls Try.prog 26 #[.pointer none, .bool own, .int .i64 a] w fun e w' => e = .returned (.int .i64 10) ∧ w = w' := by
  go_enter Try.func26, Try.ntmps26
  go_wp2_with (go_at_call 41; refine (right_nil _ _).mono ?_; rintro e w' ⟨rfl, rfl⟩)
  go_ret
  exact ⟨rfl, rfl⟩
theorem add_out (b : Nat) (own : Bool) (a : Int) (ha : a < 0 ∨ 16 ≤ a) (w : World) : Calls Try.prog 26 #[.pointer (some ⟨b, 0, none⟩), .bool own, .int .i64 a] w fun e w' => e = .returned (.int .i64 3) ∧ w = w' := by
  have H := Lib.hid ha
  clear ha
  go_enter Try.func26, Try.ntmps26
  go_wp2_with (go_at_call 41; refine (right_out _ _ H.out _).mono ?_; rintro e w' ⟨rfl, rfl⟩)
  go_ret
  exact ⟨rfl, rfl⟩
theorem add_twice (b n : Nat) (own : Bool) (O R : List Bool) (hn : n < 16) (w : World) (hT : TabAt w b O R) (hs : (sideOf own O R)[n]?.getD false = true) :
    Calls Try.prog 26 #[.pointer (some ⟨b, 0, none⟩), .bool own, .int .i64 (n : Int)] w fun e w' => e = .returned (.int .i64 9) ∧ w = w' := by
  have hc := hT.cell own n hn
  rw [hs] at hc
  have h2 : (n : Int) < 16 := by omega
  clear hs
  go_enter Try.func26, Try.ntmps26
  go_wp2_with (first | (go_at_call 41; refine (right_in _ _ hn _).mono ?_; rintro e w' ⟨rfl, rfl⟩) | (go_at_call 39; refine (of_any _ _ _).mono ?_; rintro e w' ⟨rfl, rfl⟩))
  go_ret
  exact ⟨rfl, rfl⟩

theorem add_full (b n : Nat) (own : Bool) (O R : List Bool) (hn : n < 16) (w : World) (hT : TabAt w b O R) (hs : (sideOf own O R)[n]?.getD false = false) (h4 : 4 ≤ (rl (sideOf own O R) 16).length) :
    Calls Try.prog 26 #[.pointer (some ⟨b, 0, none⟩), .bool own, .int .i64 (n : Int)] w fun e w' => e = .returned (.int .i64 6) ∧ Below w.heap.size w w' := by
  have hc := hT.cell own n hn
  rw [hs] at hc
  have h2 : (n : Int) < 16 := by omega
  have h4' : (4 : Int) ≤ ((rl (sideOf own O R) 16).length : Int) := by omega
  have hl := hT.len own
  have hr := Lib.hid (hT.range own)
  have hi : Hid ((Try.prog.info? 69).map (·.size) = some ((sideOf own O R).map Value.bool).length) := cells69.trans (by rw [List.length_map, hl])
  clear hs h4 hT
  go_enter Try.func26, Try.ntmps26
  go_wp2_with (first
    | (go_at_call 41; refine (right_in _ _ hn _).mono ?_; rintro e w' ⟨rfl, rfl⟩)
    | (go_at_call 39; refine (of_any _ _ _).mono ?_; rintro e w' ⟨rfl, rfl⟩)
    | (refine wpList_load_mid rfl 69 _ rfl b (sOff own) rfl _ _ hr.out Try.underlying69 rfl hi.out ?_)
    | (go_at_call 40; refine (all_any _ hl _).mono ?_; rintro e w1 ⟨g, cap, rfl, hown, hb⟩))
  go_ret
  exact ⟨rfl, hb⟩

theorem add_ok (b n : Nat) (own : Bool) (O R : List Bool) (hn : n < 16) (w : World) (hT : TabAt w b O R) (hs : (sideOf own O R)[n]?.getD false = false) (h4 : (rl (sideOf own O R) 16).length < 4) :
    Calls Try.prog 26 #[.pointer (some ⟨b, 0, none⟩), .bool own, .int .i64 (n : Int)] w (TabPost b 0 (setO own O n true) (setR own R n true) w) := by
  have hc := hT.cell own n hn
  rw [hs] at hc
  have h2 : (n : Int) < 16 := by omega
  have h4' : ((rl (sideOf own O R) 16).length : Int) < 4 := by omega
  have hl := hT.len own
  have hr := Lib.hid (hT.range own)
  have hi : Hid ((Try.prog.info? 69).map (·.size) = some ((sideOf own O R).map Value.bool).length) := cells69.trans (by rw [List.length_map, hl])
  clear hs h4
  go_enter Try.func26, Try.ntmps26
  go_wp2_with (first
    | (go_at_call 41; refine (right_in _ _ hn _).mono ?_; rintro e w' ⟨rfl, rfl⟩)
    | (go_at_call 39; refine (of_any _ _ _).mono ?_; rintro e w' ⟨rfl, rfl⟩)
    | (refine wpList_load_mid rfl 69 _ rfl b (sOff own) rfl _ _ hr.out Try.underlying69 rfl hi.out ?_)
    | (go_at_call 40; refine (all_any _ hl _).mono ?_; rintro e w1 ⟨g, cap, rfl, hown, hb⟩; have hT1 := hT.below hb; have hc1 := hT1.cell own n hn; have hf1 := hT1.free (sOff own + n)))
  go_ret
  exact ⟨rfl, hT1.set own n hn true, grownBy_set hb _⟩

theorem drop_nil (own : Bool) (a : Int) (w : World) : Calls Try.prog 27 #[.pointer none, .bool own, .int .i64 a] w fun e w' => e = .returned (.int .i64 10) ∧ w = w' := by
  go_enter Try.func27, Try.ntmps27
  go_wp2_with (go_at_call 41; refine (right_nil _ _).mono ?_; rintro e w' ⟨rfl, rfl⟩)
  go_ret
  exact ⟨rfl, rfl⟩
theorem drop_out (b : Nat) (own : Bool) (a : Int) (ha : a < 0 ∨ 16 ≤ a) (w : World) : Calls Try.prog 27 #[.pointer (some ⟨b, 0, none⟩), .bool own, .int .i64 a] w fun e w' => e = .returned (.int .i64 3) ∧ w = w' := by
  have H := Lib.hid ha
  clear ha
  go_enter Try.func27, Try.ntmps27
  go_wp2_with (go_at_call 41; refine (right_out _ _ H.out _).mono ?_; rintro e w' ⟨rfl, rfl⟩)
  go_ret
  exact ⟨rfl, rfl⟩
theorem drop_none (b n : Nat) (own : Bool) (O R : List Bool) (hn : n < 16) (w : World) (hT : TabAt w b O R) (hs : (sideOf own O R)[n]?.getD false = false) :
    Calls Try.prog 27 #[.pointer (some ⟨b, 0, none⟩), .bool own, .int .i64 (n : Int)] w fun e w' => e = .returned (.int .i64 8) ∧ w = w' := by
  have hc := hT.cell own n hn
  rw [hs] at hc
  have h2 : (n : Int) < 16 := by omega
  clear hs
  go_enter Try.func27, Try.ntmps27
  go_wp2_with (first | (go_at_call 41; refine (right_in _ _ hn _).mono ?_; rintro e w' ⟨rfl, rfl⟩) | (go_at_call 39; refine (of_any _ _ _).mono ?_; rintro e w' ⟨rfl, rfl⟩))
  go_ret
  exact ⟨rfl, rfl⟩
theorem drop_last (b n : Nat) (own : Bool) (O R : List Bool) (hn : n < 16) (w : World) (hT : TabAt w b O R) (hs : (sideOf own O R)[n]?.getD false = true) (h1 : (rl (sideOf own O R) 16).length = 1) :
    Calls Try.prog 27 #[.pointer (some ⟨b, 0, none⟩), .bool own, .int .i64 (n : Int)] w fun e w' => e = .returned (.int .i64 16) ∧ Below w.heap.size w w' := by
  have hc := hT.cell own n hn
  rw [hs] at hc
  have h2 : (n : Int) < 16 := by omega
  have h4' : (((rl (sideOf own O R) 16).length : Int) == 1) = true := by rw [h1]; rfl
  have hl := hT.len own
  have hr := Lib.hid (hT.range own)
  have hi : Hid ((Try.prog.info? 69).map (·.size) = some ((sideOf own O R).map Value.bool).length) := cells69.trans (by rw [List.length_map, hl])
  clear hs h1 hT
  go_enter Try.func27, Try.ntmps27
  go_wp2_with (first
    | (go_at_call 41; refine (right_in _ _ hn _).mono ?_; rintro e w' ⟨rfl, rfl⟩)
    | (go_at_call 39; refine (of_any _ _ _).mono ?_; rintro e w' ⟨rfl, rfl⟩)
    | (refine wpList_load_mid rfl 69 _ rfl b (sOff own) rfl _ _ hr.out Try.underlying69 rfl hi.out ?_)
    | (go_at_call 40; refine (all_any _ hl _).mono ?_; rintro e w1 ⟨g, cap, rfl, hown, hb⟩))
  go_ret
  exact ⟨rfl, hb⟩

theorem drop_ok (b n : Nat) (own : Bool) (O R : List Bool) (hn : n < 16) (w : World) (hT : TabAt w b O R) (hs : (sideOf own O R)[n]?.getD false = true) (h1 : (rl (sideOf own O R) 16).length ≠ 1) :
    Calls Try.prog 27 #[.pointer (some ⟨b, 0, none⟩), .bool own, .int .i64 (n : Int)] w (TabPost b 0 (setO own O n false) (setR own R n false) w) := by
  have hc := hT.cell own n hn
  rw [hs] at hc
  have h2 : (n : Int) < 16 := by omega
  have h4' : (((rl (sideOf own O R) 16).length : Int) == 1) = false := by rw [beq_eq_false_iff_ne]; omega
  have hl := hT.len own
  have hr := Lib.hid (hT.range own)
  have hi : Hid ((Try.prog.info? 69).map (·.size) = some ((sideOf own O R).map Value.bool).length) := cells69.trans (by rw [List.length_map, hl])
  clear hs h1
  go_enter Try.func27, Try.ntmps27
  go_wp2_with (first
    | (go_at_call 41; refine (right_in _ _ hn _).mono ?_; rintro e w' ⟨rfl, rfl⟩)
    | (go_at_call 39; refine (of_any _ _ _).mono ?_; rintro e w' ⟨rfl, rfl⟩)
    | (refine wpList_load_mid rfl 69 _ rfl b (sOff own) rfl _ _ hr.out Try.underlying69 rfl hi.out ?_)
    | (go_at_call 40; refine (all_any _ hl _).mono ?_; rintro e w1 ⟨g, cap, rfl, hown, hb⟩; have hT1 := hT.below hb; have hc1 := hT1.cell own n hn; have hf1 := hT1.free (sOff own + n)))
  go_ret
  exact ⟨rfl, hT1.set own n hn false, grownBy_set hb _⟩

theorem has_nil (own : Bool) (a : Int) (w : World) : Calls Try.prog 28 #[.pointer none, .bool own, .int .i64 a] w fun e w' => e = .returned (.bool false) ∧ w = w' := by
  go_enter Try.func28, Try.ntmps28
  go_wp2_with (go_at_call 41; refine (right_nil _ _).mono ?_; rintro e w' ⟨rfl, rfl⟩)
  go_ret
  exact ⟨rfl, rfl⟩
theorem has_out (b : Nat) (own : Bool) (a : Int) (ha : a < 0 ∨ 16 ≤ a) (w : World) : Calls Try.prog 28 #[.pointer (some ⟨b, 0, none⟩), .bool own, .int .i64 a] w fun e w' => e = .returned (.bool false) ∧ w = w' := by
  have H := Lib.hid ha
  clear ha
  go_enter Try.func28, Try.ntmps28
  go_wp2_with (go_at_call 41; refine (right_out _ _ H.out _).mono ?_; rintro e w' ⟨rfl, rfl⟩)
  go_ret
  exact ⟨rfl, rfl⟩
theorem has_in (b n : Nat) (own : Bool) (O R : List Bool) (hn : n < 16) (w : World) (hT : TabAt w b O R) :
    Calls Try.prog 28 #[.pointer (some ⟨b, 0, none⟩), .bool own, .int .i64 (n : Int)] w fun e w' => e = .returned (.bool ((sideOf own O R)[n]?.getD false)) ∧ w = w' := by
  have hc := hT.cell own n hn
  have h2 : (n : Int) < 16 := by omega
  generalize (sideOf own O R)[n]?.getD false = v at *
  go_enter Try.func28, Try.ntmps28
  go_wp2_with (first | (go_at_call 41; refine (right_in _ _ hn _).mono ?_; rintro e w' ⟨rfl, rfl⟩) | (go_at_call 39; refine (of_any _ _ _).mono ?_; rintro e w' ⟨rfl, rfl⟩))
  go_ret
  exact ⟨rfl, rfl⟩

theorem alls_nil (own : Bool) (w : World) : Calls Try.prog 22 #[.pointer none, .bool own] w fun e w' => e = .returned (.slice none 0 0) ∧ w = w' := by
  go_enter Try.func22, Try.ntmps22
  go_wp2
  go_ret
  exact ⟨rfl, rfl⟩
theorem alls_any (b : Nat) (own : Bool) (O R : List Bool) (w : World) (hT : TabAt w b O R) : Calls Try.prog 22 #[.pointer (some ⟨b, 0, none⟩), .bool own] w (ListPost w.heap.size (rl (sideOf own O R) 16) (rl (sideOf own O R) 16).length w) := by
  have hl := hT.len own
  have hr := Lib.hid (hT.range own)
  have hi : Hid ((Try.prog.info? 69).map (·.size) = some ((sideOf own O R).map Value.bool).length) := cells69.trans (by rw [List.length_map, hl])
  clear hT
  go_enter Try.func22, Try.ntmps22
  go_wp2_with (first
    | (go_at_call 39; refine (of_any _ _ _).mono ?_; rintro e w' ⟨rfl, rfl⟩)
    | (refine wpList_load_mid rfl 69 _ rfl b (sOff own) rfl _ _ hr.out Try.underlying69 rfl hi.out ?_)
    | (go_at_call 40; refine (all_any _ hl _).mono ?_; rintro e w1 ⟨g, cap, rfl, hown, hb⟩))
  go_ret
  exact ⟨g, cap, rfl, hown, hb⟩

end Go.Proofs.Ytafmkalepgcnkaa
