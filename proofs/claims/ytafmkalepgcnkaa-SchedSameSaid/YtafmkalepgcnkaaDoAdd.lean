/-
  The law AddrsDoes: its step, where an address is added: a statement that draws its order.
-/
import Derived.Test.YtafmkalepgcnkaaDoWalk
namespace Go.Proofs.Ytafmkalepgcnkaa
open Go.RowKit

/-- An append of a list of integers to one of the call's own, at one operation. -/
theorem wp_append_src {w : World} {o : Oper} {a : Act} {K : Act → World → Prop} {Q : Exit → Act → World → Prop} (s x : Operand)
    (ho : o.op = .call { callee := .builtin .append, args := #[s, x], argTypes := #[23, 23] }) (base : Nat)
    (v : Value) (n : Nat) (xs : List Value) (hs : a.eval s = v) (hown : w.ownsRow base 3 1 v n xs) (g : Option Addr) (c : Nat) (news : List Int) (hx : a.eval x = .slice g news.length c) (hr : RowArg w g c news)
    (hlim : n + news.length ≤ 2000) (hbase : base ≤ w.heap.size)
    (h : ∀ v' w', w'.ownsRow base 3 1 v' (n + news.length) (xs ++ news.map (Value.int .i64)) → w.grownBy w' v.ownBlock → K (a.put o.dst v') w') : o.wp Try.prog a w K Q := by
  obtain ⟨i0, hi, hz0, hz1, hz2⟩ := info_parts Try.info3
  rcases hr with ⟨rfl, rfl, rfl⟩ | ⟨ad, rfl, hc⟩
  · have hrun := run_append_owned_none (P := Try.prog) (w := w) base 23 o.type 3 i0 1 Try.underlying23 hi v n xs hown
    have h' := h v w (by simpa using hown) (grownBy_refl _ _)
    have hx' : a.eval x = .slice none 0 0 := hx
    unfold Oper.wp execOp
    simp only [ho, resolve, invoke, builtin, Sem.run_bind, Sem.run_pure, Result.andThen_ok, List.map_toArray, List.map_cons, List.map_nil, hs, hx', hrun]
    exact h'
  · refine wp_append_own w s x 23 ho base 3 i0 (.int .i64 0) 1 8 Try.underlying23 hi hz0 hz1 hz2 rfl (by decide) v n xs hs hown ad news.length c (news.map (Value.int .i64)) hx (by simp) (fun j u hu => ?_) (fun u hu => ?_) (by unfold maxLen; omega) (by omega) hbase (fun v' w' h2 h3 _ => h v' w' h2 h3)
    · rw [List.getElem?_map] at hu
      have hj : j < news.length := by
        rcases Nat.lt_or_ge j news.length with h' | h'
        · exact h'
        · rw [List.getElem?_eq_none h'] at hu; cases hu
      rw [hc j hj]
      rw [List.getElem?_eq_getElem hj] at hu ⊢
      simpa using hu
    · simp only [List.mem_map] at hu
      obtain ⟨n', _, rfl⟩ := hu
      rfl

theorem keep_alloc {w0 wx : World} {B bb : Nat} {v : Value} {o : Obj} (h : wx.cell? ⟨bb, 2, none⟩ = some v ∧ bb < B ∧ B ≤ wx.heap.size ∧ Below B w0 wx) : (wx.alloc o).cell? ⟨bb, 2, none⟩ = some v ∧ bb < B ∧ B ≤ (wx.alloc o).heap.size ∧ Below B w0 (wx.alloc o) :=
  ⟨by rw [World.cell?_alloc_past _ _ _ (Nat.lt_of_lt_of_le h.2.1 h.2.2.1)]; exact h.1, h.2.1, by simp; have := h.2.2.1; omega, h.2.2.2.alloc h.2.2.1 o⟩
theorem keep_allocD {w0 wx : World} {B bb : Nat} {v : Value} {o : Obj} (h : wx.drew.cell? ⟨bb, 2, none⟩ = some v ∧ bb < B ∧ B ≤ wx.drew.heap.size ∧ Below B w0 wx.drew) : (wx.alloc o).drew.cell? ⟨bb, 2, none⟩ = some v ∧ bb < B ∧ B ≤ (wx.alloc o).drew.heap.size ∧ Below B w0 (wx.alloc o).drew :=
  keep_alloc (wx := wx.drew) (o := o) h
theorem keep_grown {w0 wx w' : World} {B bb b : Nat} {v : Value} (h : wx.cell? ⟨bb, 2, none⟩ = some v ∧ bb < B ∧ B ≤ wx.heap.size ∧ Below B w0 wx) (hg : wx.grownBy w' (some b)) (hb : B ≤ b) : w'.cell? ⟨bb, 2, none⟩ = some v ∧ bb < B ∧ B ≤ w'.heap.size ∧ Below B w0 w' := by
  have h2 := h.2.1
  exact ⟨hg.cell (a := ⟨bb, 2, none⟩) h.1 (by simp only [ne_eq, Option.some.injEq]; omega), h2, Nat.le_trans h.2.2.1 hg.size, h.2.2.2.grown hg h.2.2.1 (fun k hk => by simp only [Option.some.injEq] at hk; omega)⟩

theorem keep_own {w0 wx w' : World} {B bb n : Nat} {v u : Value} {ys : List Value} (h : wx.cell? ⟨bb, 2, none⟩ = some v ∧ bb < B ∧ B ≤ wx.heap.size ∧ Below B w0 wx) (ho : wx.ownsRow B 3 1 u n ys) (hg : wx.grownBy w' u.ownBlock) :
    w'.cell? ⟨bb, 2, none⟩ = some v ∧ bb < B ∧ B ≤ w'.heap.size ∧ Below B w0 w' := by
  have h2 := h.2.1
  exact ⟨hg.cell (a := ⟨bb, 2, none⟩) h.1 (fun e => by have := (ho.lt bb e.symm).1; omega), h2, Nat.le_trans h.2.2.1 hg.size, h.2.2.2.grown hg h.2.2.1 (fun k hk => (ho.lt k hk).1)⟩
theorem made_at {w : World} {B n : Nat} (hn : w.heap.size = n) (hB : B ≤ w.heap.size) : (w.alloc (.cells #[] 3)).ownsRow B 3 1 (.slice (some ⟨n, 0, none⟩) 0 0) 0 [] := by
  subst hn; exact World.ownsRow_made w #[] 0 hB (by decide) rfl
theorem one_arg {w : World} {b c : Nat} {a : Int} (h : w.cell? ⟨b, 0, none⟩ = some (.int .i64 a)) : RowArg w (some ⟨b, 0, none⟩) c [a] := by
  refine .inr ⟨_, rfl, fun j hj => ?_⟩
  have h0 : j = 0 := by have : j < 1 := hj; omega
  subst h0
  rw [Addr.add_lit]; exact h
theorem arg_b {W w1 : World} {a : Int} {c : Nat} (h : ((W.alloc (.cells #[] 3)).alloc (.cells #[.int .i64 a] 3)).drew.grownBy w1 (some W.heap.size)) : RowArg w1 (some ⟨W.heap.size + 1, 0, none⟩) c [a] :=
  one_arg (h.cell (a := ⟨W.heap.size + 1, 0, none⟩) (show ((W.alloc (.cells #[] 3)).alloc (.cells #[.int .i64 a] 3)).cell? _ = _ by rw [World.cell?_alloc_at _ _ _ _ (by simp)]; rfl) (by simp))
theorem arg_c {W w1 : World} {a : Int} {c : Nat} (h : ((W.alloc (.cells #[.int .i64 a] 3)).alloc (.cells #[] 3)).drew.grownBy w1 (some (W.heap.size + 1))) : RowArg w1 (some ⟨W.heap.size, 0, none⟩) c [a] :=
  one_arg (h.cell (a := ⟨W.heap.size, 0, none⟩) (show ((W.alloc (.cells #[.int .i64 a] 3)).alloc (.cells #[] 3)).cell? _ = _ by rw [World.cell?_alloc_past _ _ _ (by simp), World.cell?_alloc_at _ _ _ _ rfl]; rfl) (by simp))
theorem cell_new {w : World} {n : Nat} {a : Int} (hn : w.heap.size = n) : (w.alloc (.cells #[.int .i64 a] 3)).cell? ⟨n, 0, none⟩ = some (.int .i64 a) := by
  rw [World.cell?_alloc_at _ _ _ _ hn.symm]; rfl

set_option maxHeartbeats 4000000 in
theorem do_add (g : Option Addr) (c : Nat) (xs : List Int) (kind a : Int) (own : Bool) (w : World) (hr : RowC w g c xs) (h0 : 0 ≤ a) (h1 : a ≤ 15) (hk : kind < 2) (hin : inL xs a = false) (h4 : xs.length < 4) :
    Calls Try.prog 25 #[.slice g xs.length c, .agg #[.int .i64 kind, .bool own, .int .i64 a]] w (DoPost (xs ++ [a]) 0 w) := by
  have hR := Lib.hid (hr.later ((Below.refl _ _).alloc (Nat.le_refl _) (.cells #[.int .i64 kind, .bool own, .int .i64 a] 48)))
  have h4' : (xs.length : Int) < 4 := by omega
  go_enter Try.func25, Try.ntmps25
  go_wp2_with (go_at_call 29; refine (inList_any _ _ xs _ _ hR.out.row3.row (by omega)).mono ?_; rintro e w' ⟨rfl, rfl⟩)
  obtain ⟨W, hW⟩ : ∃ W, w.alloc (.cells #[.int .i64 kind, .bool own, .int .i64 a] 48) = W := ⟨_, rfl⟩
  have hS : W.drew.cell? ⟨w.heap.size, 2, none⟩ = some (.int .i64 a) ∧ w.heap.size < W.heap.size ∧ W.heap.size ≤ W.drew.heap.size ∧ Below W.heap.size W W.drew := by
    subst hW
    exact ⟨by show (w.alloc _).cell? _ = _; rw [World.cell?_alloc_at _ _ _ _ rfl]; rfl, by simp, Nat.le_refl _, (Below.refl _ _).drew⟩
  have hWB : Hid (Below w.heap.size w W) := by subst hW; exact Lib.hid ((Below.refl _ _).alloc (Nat.le_refl _) _)
  have hRW : Hid (RowC W g c xs) := by subst hW; exact hR
  clear hR
  go_region_held3 (fun w' => w'.cell? ⟨w.heap.size, 2, none⟩ = some (.int .i64 a) ∧ w.heap.size < W.heap.size ∧ W.heap.size ≤ w'.heap.size ∧ Below W.heap.size W w')
    (first | exact hW ▸ hS | exact keep_alloc (by assumption) | exact keep_allocD (by assumption) | exact keep_own (by assumption) ho2 gr2 | exact keep_grown (by assumption) gr1 (Nat.le_refl _) | exact keep_grown (by assumption) gr1 (Nat.le_succ _) | go_keep)
    (first
      | (rw [if_pos (by rfl)]; refine wp_append_src (.tmp 43) (.tmp 44) rfl W.heap.size _ 0 [] rfl (by first | exact (made_at rfl (Nat.le_refl _)).drew | exact ((made_at rfl (Nat.le_refl _)).alloc _).drew | exact (made_at (by simp) (by simp)).drew) g c xs rfl (by first | exact (hRW.out.later ((show _ ∧ _ ∧ _ ∧ Below W.heap.size W _ from by assumption).2.2.2)).arg) (by omega) (by first | exact (show _ ∧ _ ∧ _ ∧ Below W.heap.size W _ from by assumption).2.2.1) ?_; intro v1 w1 own1 gr1; rw [Nat.zero_add, List.nil_append] at own1)
      | (rw [if_pos (by rfl)]; have ho2 := own1.alloc (.cells #[.int .i64 a] 3); refine wp_append_src (.tmp 45) (.tmp 48) rfl W.heap.size _ xs.length _ rfl ho2 (some ⟨w1.heap.size, 0, none⟩) 1 [a] rfl (one_arg (cell_new rfl)) (by simp; omega) ((show _ ∧ _ ∧ _ ∧ Below W.heap.size W _ from by assumption).2.2.1) ?_; intro v2 w2 own2 gr2)
      | (rw [if_pos (by rfl)]; have ho2 := own1; refine wp_append_src (.tmp 45) (.tmp 48) rfl W.heap.size _ xs.length _ rfl ho2 (some ⟨W.heap.size + 1, 0, none⟩) 1 [a] rfl (arg_b gr1) (by simp; omega) ((show _ ∧ _ ∧ _ ∧ Below W.heap.size W _ from by assumption).2.2.1) ?_; intro v2 w2 own2 gr2)
      | (rw [if_pos (by rfl)]; have ho2 := own1; refine wp_append_src (.tmp 45) (.tmp 48) rfl W.heap.size _ xs.length _ rfl ho2 (some ⟨W.heap.size, 0, none⟩) 1 [a] rfl (arg_c gr1) (by simp; omega) ((show _ ∧ _ ∧ _ ∧ Below W.heap.size W _ from by assumption).2.2.1) ?_; intro v2 w2 own2 gr2))
  all_goals
    have hSw := (show _ ∧ _ ∧ _ ∧ Below W.heap.size W w2 from by assumption).2.2.2
    have own3 : w2.ownsRow W.heap.size 3 1 v2 (xs ++ [a]).length ((xs ++ [a]).map (Value.int .i64)) := by rw [List.length_append, List.map_append]; exact own2
    clear own2 own1 ho2 gr1 gr2
    obtain ⟨g2, c2, hv2, hrc, -⟩ := RowC.of own3
    subst hv2
    clear own3 hW hS hRW
    go_wp2
    go_ret2
    exact ⟨g2, c2, rfl, hrc, hWB.out.trans (hSw.mono hWB.out.size)⟩

end Go.Proofs.Ytafmkalepgcnkaa
