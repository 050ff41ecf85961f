/-
  Package sched: what compares two paths, walked: it lays blocks of its own and draws, and turns nothing.
-/
import Derived.Test.YtafmkalepgcnkaaStable
import Derived.Test.YtafmkalepgcnkaaDo
import Derived.Deep.RegionHeld3
import Derived.Handy
namespace Go.Proofs.Ytafmkalepgcnkaa
open Go.RowKit Go.Sort

/-- w' is w some draws on, with blocks behind. -/
def Gro (w w' : World) : Prop := ∃ q os, w' = grow (w.drewN q) os
theorem Gro.refl (w : World) : Gro w w := ⟨0, #[], by rw [grow_empty]; rfl⟩
theorem Gro.alloc {w w' : World} (h : Gro w w') (o : Obj) : Gro w (w'.alloc o) := by
  obtain ⟨q, os, rfl⟩ := h
  exact ⟨q, os ++ #[o], by rw [alloc_eq_grow, grow_grow]⟩
theorem Gro.drewN {w w' : World} (h : Gro w w') (n : Nat) : Gro w (w'.drewN n) := by
  obtain ⟨q, os, rfl⟩ := h
  exact ⟨q + n, os, by show grow ((w.drewN q).drewN n) os = _; rw [World.drewN_drewN]⟩
theorem Gro.drew {w w' : World} (h : Gro w w') : Gro w w'.drew := h.drewN 1
theorem Gro.trans {w w1 w2 : World} (h : Gro w w1) (h' : Gro w1 w2) : Gro w w2 := by
  obtain ⟨q, os, rfl⟩ := h
  obtain ⟨q', os', rfl⟩ := h'
  exact ⟨q + q', os ++ os', by show grow (grow ((w.drewN q).drewN q') os) os' = _; rw [grow_grow, World.drewN_drewN]⟩
theorem Gro.below {w w' : World} (h : Gro w w') : Below w.heap.size w w' := by
  obtain ⟨q, os, rfl⟩ := h
  refine ⟨rfl, rfl, rfl, ?_, ?_⟩ <;> first | (rw [size_grow]; exact Nat.le_add_right _ _) | (intro k hk; show (w.heap ++ os)[k]? = w.heap[k]?; rw [Array.getElem?_append_left hk])

theorem compareI_any (a b : Int) (w : World) : Calls Try.prog 47 #[.int .i64 a, .int .i64 b] w fun e w' => e = .returned (.int .i64 (cmpI a b)) ∧ w = w' := by
  have hn : ∀ (x : Int) (w : World), Calls Try.prog 49 #[.int .i64 x] w fun e w' => e = .returned (.bool false) ∧ w = w' := fun x w => by
    go_enter Try.func49, Try.ntmps49
    go_wp2
    go_ret
    exact ⟨ret_bool (by simp), rfl⟩
  by_cases h1 : a < b
  · have e : cmpI a b = -1 := by unfold cmpI; rw [if_pos h1]
    rw [e]
    clear e
    go_enter Try.func47, Try.ntmps47
    go_wp2_with (go_at_call 49; refine (hn _ _).mono ?_; rintro e w' ⟨rfl, rfl⟩)
    go_ret
    exact ⟨rfl, rfl⟩
  · by_cases h2 : b < a
    · have e : cmpI a b = 1 := by unfold cmpI; rw [if_neg h1, if_pos h2]
      rw [e]
      clear e
      go_enter Try.func47, Try.ntmps47
      go_wp2_with (go_at_call 49; refine (hn _ _).mono ?_; rintro e w' ⟨rfl, rfl⟩)
      go_ret
      exact ⟨rfl, rfl⟩
    · have e : cmpI a b = 0 := by unfold cmpI; rw [if_neg h1, if_neg h2]
      rw [e]
      clear e
      go_enter Try.func47, Try.ntmps47
      go_wp2_with (go_at_call 49; refine (hn _ _).mono ?_; rintro e w' ⟨rfl, rfl⟩)
      go_ret
      exact ⟨rfl, rfl⟩

/-- The first number that is not 0. -/
def fnz : List Int → Int
  | [] => 0
  | x :: r => if x ≠ 0 then x else fnz r
theorem fnz_zeros : ∀ (xs : List Int) (k : Nat), (∀ j, j < k → xs[j]?.getD 0 = 0) → fnz xs = fnz (xs.drop k)
  | [], k, _ => by simp
  | x :: r, 0, _ => rfl
  | x :: r, k + 1, h => by
    have h0 : x = 0 := by have := h 0 (by omega); simpa using this
    rw [fnz, if_neg (by simpa using h0)]
    exact fnz_zeros r k (fun j hj => by have := h (j + 1) (by omega); simpa using this)
theorem fnz_hit (xs : List Int) (k : Nat) (h : ∀ j, j < k → xs[j]?.getD 0 = 0) (hk : k < xs.length) (hx : xs[k]?.getD 0 ≠ 0) : fnz xs = xs[k]?.getD 0 := by
  rw [fnz_zeros xs k h, List.drop_eq_getElem_cons hk, fnz]
  rw [List.getElem?_eq_getElem hk] at hx ⊢
  simp only [Option.getD_some] at hx ⊢
  rw [if_pos hx]
theorem fnz_none (xs : List Int) (h : ∀ j, j < xs.length → xs[j]?.getD 0 = 0) : fnz xs = 0 := by
  rw [fnz_zeros xs xs.length h, List.drop_length]; rfl

set_option maxHeartbeats 800000 in
theorem or_any (g : Option Addr) (c : Nat) (xs : List Int) (w : World) (h0 : RowIn w g xs) (l0 : xs.length ≤ 9223372036854775807) :
    Calls Try.prog 46 #[.slice g xs.length c] w fun e w' => e = .returned (.int .i64 (fnz xs)) ∧ w = w' := by
  go_enter Try.func46, Try.ntmps46
  go_wp2
  go_loop [8] (fun t => ∃ k : Nat, k ≤ xs.length ∧ t = .int .i64 k ∧ Hid (∀ j, j < k → xs[j]?.getD 0 = 0)) (fun t => xs.length - (intOf t).toNat)
  case atStart => exact ⟨0, Nat.zero_le _, rfl, (show ∀ j, j < 0 → _ from fun j hj => by omega)⟩
  case round =>
    obtain ⟨k, hk, rfl, hn⟩ := hrel
    by_cases hlt : k < xs.length
    · obtain ⟨b0, o0, e0, c0⟩ := h0.get hlt
      have hlt' : (k : Int) < (xs.length : Int) := by omega
      have H1 : Hid (xs[k]?.getD 0 ≠ 0 → fnz xs = xs[k]?.getD 0) := Lib.hid (fnz_hit xs k hn.out hlt)
      have H2 : Hid (xs[k]?.getD 0 = 0 → ∀ j, j < k + 1 → xs[j]?.getD 0 = 0) := Lib.hid (fun h j hj => by
        by_cases e : j = k
        · rw [e]; exact h
        · exact hn.out j (by omega))
      generalize xs[k]?.getD 0 = x at *
      subst e0
      clear h0 hn
      by_cases hx : x = 0
      · have HT := Lib.hid (H2.out hx)
        have hx' : (x != 0) = false := by rw [bne_eq_false_iff_eq]; exact hx
        clear hx H1 H2
        go_wp2
        go_round
        case rel => exact ⟨k + 1, by omega, by go_num, HT⟩
        case measure => simp [intOf]; omega
      · have HT := Lib.hid (H1.out hx)
        have hx' : (x != 0) = true := by rw [bne_iff_ne]; exact hx
        clear hx H1 H2
        go_wp2
        go_ret
        exact ⟨by rw [HT.out]; rfl, rfl⟩
    · obtain rfl : k = xs.length := by omega
      have HT := Lib.hid (fnz_none xs hn.out)
      go_wp2
      go_ret
      exact ⟨by rw [HT.out]; rfl, rfl⟩

/-- A path, as a value. -/
def chV (x : Ch) : Array Value := #[.int .i64 x.id, .int .i64 x.prio, .int .i64 x.cost, .bool x.room]
theorem cmpC_fnz (x y : Ch) : cmpC x y = fnz [cmpI x.prio y.prio, cmpI x.cost y.cost, cmpI x.id y.id] := by
  unfold cmpC
  simp only [fnz]
  split
  · rfl
  · split
    · rfl
    · split
      · rfl
      · rename_i h; simpa using h

theorem or3 (b c : Nat) (A B C : Int) (w : World) (h : w.heap[b]? = some (.cells #[.int .i64 A, .int .i64 B, .int .i64 C] 3 (0, 0))) :
    Calls Try.prog 46 #[.slice (some ⟨b, 0, none⟩) 3 c] w fun e w' => e = .returned (.int .i64 (fnz [A, B, C])) ∧ w = w' := by
  refine or_any (some ⟨b, 0, none⟩) c [A, B, C] w (.inr ⟨b, 0, rfl, lt_block h, fun j hj => ?_⟩) (by simp)
  rw [Nat.zero_add, cell_of_row _ _ _ _ _ _ h]
  match j, hj with
  | 0, _ => rfl
  | 1, _ => rfl
  | 2, _ => rfl

theorem or3d (A B C : Int) (W : World) (n : Nat) (hn : n = W.heap.size) :
    Calls Try.prog 46 #[.slice (some ⟨n, 0, none⟩) 3 3] (W.alloc (.cells #[.int .i64 A, .int .i64 B, .int .i64 C] 3)).drew fun e w' => e = .returned (.int .i64 (fnz [A, B, C])) ∧ (W.alloc (.cells #[.int .i64 A, .int .i64 B, .int .i64 C] 3)).drew = w' := by
  subst hn
  exact or3 _ _ A B C _ (heap_alloc_new W _)

set_option maxHeartbeats 4000000 in
theorem compare_any (x y : Ch) (w : World) : Calls Try.prog 43 #[.agg (chV x), .agg (chV y)] w fun e w' => e = .returned (.int .i64 (cmpC x y)) ∧ Gro w w' := by
  obtain ⟨i1, p1, c1, r1⟩ := x
  obtain ⟨i2, p2, c2, r2⟩ := y
  unfold chV
  rw [cmpC_fnz]
  go_enter Try.func43, Try.ntmps43
  go_wp2_with fail
  have hg := ((Gro.refl w).alloc (.cells #[.int .i64 i1, .int .i64 p1, .int .i64 c1, .bool r1] 57)).alloc (.cells #[.int .i64 i2, .int .i64 p2, .int .i64 c2, .bool r2] 57)
  have hx := heap_alloc_old (w.alloc (.cells #[.int .i64 i1, .int .i64 p1, .int .i64 c1, .bool r1] 57)) (.cells #[.int .i64 i2, .int .i64 p2, .int .i64 c2, .bool r2] 57) (by simp : w.heap.size < _)
  rw [heap_alloc_new] at hx
  have hy := heap_alloc_new (w.alloc (.cells #[.int .i64 i1, .int .i64 p1, .int .i64 c1, .bool r1] 57)) (.cells #[.int .i64 i2, .int .i64 p2, .int .i64 c2, .bool r2] 57)
  rw [show (w.alloc (.cells #[.int .i64 i1, .int .i64 p1, .int .i64 c1, .bool r1] 57)).heap.size = w.heap.size + 1 by simp] at hy
  have x0 : ((w.alloc (.cells #[.int .i64 i1, .int .i64 p1, .int .i64 c1, .bool r1] 57)).alloc (.cells #[.int .i64 i2, .int .i64 p2, .int .i64 c2, .bool r2] 57)).cell? ⟨w.heap.size, 0, none⟩ = some (.int .i64 i1) := (cell_of_row _ _ 0 _ _ _ hx).trans rfl
  have x1 : ((w.alloc (.cells #[.int .i64 i1, .int .i64 p1, .int .i64 c1, .bool r1] 57)).alloc (.cells #[.int .i64 i2, .int .i64 p2, .int .i64 c2, .bool r2] 57)).cell? ⟨w.heap.size, 1, none⟩ = some (.int .i64 p1) := (cell_of_row _ _ 1 _ _ _ hx).trans rfl
  have x2 : ((w.alloc (.cells #[.int .i64 i1, .int .i64 p1, .int .i64 c1, .bool r1] 57)).alloc (.cells #[.int .i64 i2, .int .i64 p2, .int .i64 c2, .bool r2] 57)).cell? ⟨w.heap.size, 2, none⟩ = some (.int .i64 c1) := (cell_of_row _ _ 2 _ _ _ hx).trans rfl
  have y0 : ((w.alloc (.cells #[.int .i64 i1, .int .i64 p1, .int .i64 c1, .bool r1] 57)).alloc (.cells #[.int .i64 i2, .int .i64 p2, .int .i64 c2, .bool r2] 57)).cell? ⟨w.heap.size + 1, 0, none⟩ = some (.int .i64 i2) := (cell_of_row _ _ 0 _ _ _ hy).trans rfl
  have y1 : ((w.alloc (.cells #[.int .i64 i1, .int .i64 p1, .int .i64 c1, .bool r1] 57)).alloc (.cells #[.int .i64 i2, .int .i64 p2, .int .i64 c2, .bool r2] 57)).cell? ⟨w.heap.size + 1, 1, none⟩ = some (.int .i64 p2) := (cell_of_row _ _ 1 _ _ _ hy).trans rfl
  have y2 : ((w.alloc (.cells #[.int .i64 i1, .int .i64 p1, .int .i64 c1, .bool r1] 57)).alloc (.cells #[.int .i64 i2, .int .i64 p2, .int .i64 c2, .bool r2] 57)).cell? ⟨w.heap.size + 1, 2, none⟩ = some (.int .i64 c2) := (cell_of_row _ _ 2 _ _ _ hy).trans rfl
  clear hx hy
  generalize (w.alloc (.cells #[.int .i64 i1, .int .i64 p1, .int .i64 c1, .bool r1] 57)).alloc (.cells #[.int .i64 i2, .int .i64 p2, .int .i64 c2, .bool r2] 57) = w2 at *
  have HG := Lib.hid hg
  clear hg
  generalize w.heap.size = H at *
  go_region_held3 (fun w' => w'.cell? ⟨H, 0, none⟩ = some (.int .i64 i1) ∧ w'.cell? ⟨H, 1, none⟩ = some (.int .i64 p1) ∧ w'.cell? ⟨H, 2, none⟩ = some (.int .i64 c1) ∧ w'.cell? ⟨H + 1, 0, none⟩ = some (.int .i64 i2) ∧ w'.cell? ⟨H + 1, 1, none⟩ = some (.int .i64 p2) ∧ w'.cell? ⟨H + 1, 2, none⟩ = some (.int .i64 c2)) (go_keep)
    (first
      | (go_at_call 47; refine (compareI_any _ _ _).mono ?_; rintro e w' ⟨rfl, rfl⟩)
      | (go_at_call 46; refine (or3d (cmpI p1 p2) (cmpI c1 c2) (cmpI i1 i2) w2 _ rfl).mono ?_; rintro e w' ⟨rfl, rfl⟩))
  all_goals
    go_wp2
    go_ret
    exact ⟨rfl, (HG.out.alloc _).drew⟩

/-- A path and its place, as cells. -/
def encP (x : Pl) : List Value := [.int .i64 x.ch.id, .int .i64 x.ch.prio, .int .i64 x.ch.cost, .bool x.ch.room, .int .i64 x.pos]

set_option maxHeartbeats 4000000 in
theorem closure_any (x y : Pl) (w : World) : Calls Try.prog 45 #[.agg (encP x).toArray, .agg (encP y).toArray] w fun e w' => e = .returned (.int .i64 (cmpP x y)) ∧ Gro w w' := by
  obtain ⟨x, a⟩ := x
  obtain ⟨y, b⟩ := y
  unfold encP cmpP
  have h := fun W => compare_any x y W
  obtain ⟨i1, p1, c1, r1⟩ := x
  obtain ⟨i2, p2, c2, r2⟩ := y
  unfold chV at h
  generalize cmpC ⟨i1, p1, c1, r1⟩ ⟨i2, p2, c2, r2⟩ = N at h ⊢
  have HH : Aside _ := h
  clear h
  go_enter Try.func45, Try.ntmps45
  go_wp2_with (go_at_call 43; refine (HH.out _).mono ?_; rintro e w' ⟨rfl, hg⟩)
  go_ret
  exact ⟨rfl, (((Gro.refl w).alloc _).alloc _).trans hg⟩

theorem cmpLays (blk off size : Nat) (w : World) : CmpLays Try.prog 45 #[] encP 5 cmpP blk off size w :=
  fun _ _ _ _ x y => closure_any x y _

/-- The sort's text lies in this program. -/
theorem lays : Lay Try.prog 5 where
  mixed := by kernel_rfl
  f48 := Try.func48
  f50 := Try.func50
  f51 := Try.func51
  f52 := Try.func52
  f53 := Try.func53
  t0 := Try.underlying0
  a0 := Try.isAgg0
  z0 := Try.sizeOf0
  v0 := Try.zeroValue0
  t3 := Try.underlying3
  a3 := Try.isAgg3
  z3 := Try.sizeOf3
  v3 := Try.zeroValue3
  t4 := Try.underlying4
  a4 := Try.isAgg4
  z4 := Try.sizeOf4
  v4 := Try.zeroValue4
  t76 := Try.underlying76
  a76 := Try.isAgg76
  z76 := Try.sizeOf76
  v76 := Try.zeroValue76
  t83 := Try.underlying83
  a83 := Try.isAgg83
  z83 := Try.sizeOf83
  v83 := Try.zeroValue83
  t89 := Try.underlying89
  a89 := Try.isAgg89
  z89 := Try.sizeOf89
  v89 := Try.zeroValue89
  aE := Try.isAgg79
  zE := Try.sizeOf79

theorem encP_len (x : Pl) : (encP x).length = 5 := rfl
theorem encP_one (x : Pl) : ∀ v ∈ encP x, v.oneCell' = true := by
  intro v hv
  simp only [encP, List.mem_cons, List.not_mem_nil, or_false] at hv
  rcases hv with rfl | rfl | rfl | rfl | rfl <;> rfl

set_option maxHeartbeats 2000000 in
/-- The library's stable sort at this program's paths. -/
theorem sortStable_any (blk cap n : Nat) (d0 : Array Pl) (w : World) (hH : HoldsK encP 5 w blk 0 d0) (hblk : blk < w.heap.size) (hn : n = d0.size) (hsz : n ≤ 60) (hA : Asc 0 0 d0.size d0) :
    Calls Try.prog 44 #[.slice (some ⟨blk, 0, none⟩) n cap, .func (.func 45) #[] #[]] w fun e w' => e = .returned (.tuple #[]) ∧ ∃ d', PermIn 0 n d0 d' ∧ SortedIn lt2 0 n d' ∧ SWK encP 5 w blk 0 d' w' := by
  have eg : ∀ args w, (callFunc 45 args).run Try.prog w = .ok (.enter 45 args) w := enters_of Try.func45 (by kernel_rfl) rfl
  have h := stable_gen 5 lays encP 45 #[] blk 0 cap n d0 w eg (cmpLays _ _ _ _) ⟨encP_len, encP_one, hH, hblk⟩ hn hsz hA
  have hnz : (n : Int) ≤ 60 := by omega
  clear hH hblk hn hA eg
  go_enter Try.func44, Try.ntmps44
  go_wp2_with fail
  refine h.mono ?_
  rintro e w' ⟨rfl, d', h1, h2, h3⟩
  go_wp2
  go_end0
  exact ⟨rfl, d', h1, h2, h3⟩

end Go.Proofs.Ytafmkalepgcnkaa
