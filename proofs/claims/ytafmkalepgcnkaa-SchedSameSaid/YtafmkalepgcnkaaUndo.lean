/-
  The law AddrsUndo, walked: it returns true and leaves all that was there as it was.
-/
import Derived.Test.YtafmkalepgcnkaaInts
namespace Go.Proofs.Ytafmkalepgcnkaa
open Go.RowKit

/-! ### the plain law -/
theorem undo_not (S : List Bool) (a : Int) : (sAddC S a == 9) = sHas S a := by
  unfold sAddC sHas
  by_cases h1 : a < 0 ∨ 16 ≤ a
  · rw [if_pos h1, if_pos h1]; rfl
  · rw [if_neg h1, if_neg h1]
    cases h2 : S[a.toNat]?.getD false
    · rw [if_neg (by decide)]
      split <;> rfl
    · rw [if_pos rfl]; rfl
theorem undo_same (S : List Bool) (a : Int) (h : sAddC S a ≠ 0) : sAdd S a = S := by unfold sAdd; rw [if_neg h]
theorem undo_in (S : List Bool) (a : Int) (h : sAddC S a = 0) (hS : S.length = 16) : ∃ n : Nat, a = n ∧ n < 16 ∧ S[n]? = some false ∧ (rl S 16).length < 4 ∧ sAdd S a = S.set n true := by
  have h0 := h
  unfold sAddC at h
  split at h
  · cases h
  · rename_i h1
    split at h
    · cases h
    · rename_i h2
      split at h
      · cases h
      · rename_i h3
        refine ⟨a.toNat, by omega, by omega, ?_, by omega, by unfold sAdd; rw [if_pos h0]⟩
        rw [List.getElem?_eq_getElem (by omega)] at h2 ⊢
        simpa using h2
theorem rl_set (S : List Bool) (n : Nat) (hS : S.length = 16) (hn : n < 16) (h : S[n]? = some false) : (rl (S.set n true) 16).length = (rl S 16).length + 1 := by
  have hl : (S.set n true).length = 16 := by rw [List.length_set]; exact hS
  rw [rl_count _ _ (by omega), List.take_of_length_le (by omega), rl_count _ _ (by omega), List.take_of_length_le (by omega), List.countP_set (by omega)]
  rw [List.getElem?_eq_getElem (by omega)] at h
  simp only [Option.some.injEq] at h
  simp [h]
theorem undo_count (S : List Bool) (a : Int) (h : sAddC S a = 0) (hS : S.length = 16) : (rl (sAdd S a) 16).length = (rl S 16).length + 1 := by
  obtain ⟨n, rfl, hn, h1, _, h2⟩ := undo_in S a h hS
  rw [h2]; exact rl_set S n hS hn h1
theorem undo_has (S : List Bool) (a : Int) (h : sAddC S a = 0) (hS : S.length = 16) : sHas (sAdd S a) a = true := by
  obtain ⟨n, rfl, hn, h1, _, h2⟩ := undo_in S a h hS
  rw [h2]; unfold sHas
  rw [if_neg (by omega), Int.toNat_natCast, List.getElem?_set_self (by omega)]; rfl
theorem undo_alone (S : List Bool) (a : Int) (h : sAddC S a = 0) (hS : S.length = 16) (h0 : (rl S 16).length = 0) : sDropC (sAdd S a) a = 16 ∧ sDrop (sAdd S a) a = sAdd S a := by
  have hc := undo_count S a h hS
  obtain ⟨n, rfl, hn, h1, _, h2⟩ := undo_in S a h hS
  have e : sDropC (sAdd S n) n = 16 := by
    unfold sDropC
    rw [if_neg (by omega), Int.toNat_natCast, h2, List.getElem?_set_self (by omega), Option.getD_some, if_pos rfl]
    rw [h2, h0] at hc
    rw [if_pos hc]
  exact ⟨e, by unfold sDrop; rw [if_neg (by rw [e]; decide)]⟩
theorem undo_back (S : List Bool) (a : Int) (h : sAddC S a = 0) (hS : S.length = 16) (h0 : (rl S 16).length ≠ 0) : sDropC (sAdd S a) a = 0 ∧ sDrop (sAdd S a) a = S := by
  have hc := undo_count S a h hS
  obtain ⟨n, rfl, hn, h1, _, h2⟩ := undo_in S a h hS
  have e : sDropC (sAdd S n) n = 0 := by
    unfold sDropC
    rw [if_neg (by omega), Int.toNat_natCast, h2, List.getElem?_set_self (by omega), Option.getD_some, if_pos rfl]
    rw [h2] at hc
    rw [if_neg (by omega)]
  refine ⟨e, ?_⟩
  unfold sDrop
  rw [if_pos e, h2, Int.toNat_natCast, List.set_set]
  rw [List.getElem?_eq_getElem (by omega)] at h1
  simp only [Option.some.injEq] at h1
  rw [← h1]; exact List.set_getElem_self (by omega)

/-- A list of integers is left by what writes a table. -/
theorem Row3.tab {w w' : World} {g : Option Addr} {xs : List Int} {b : Nat} {O R : List Bool} (h : Row3 w g xs) (hT : TabAt w b O R) (hg : w.grownBy w' (some b)) : Row3 w' g xs := by
  rcases h with h | ⟨b', cur, rfl, hh, hc⟩
  · exact .inl h
  · refine .inr ⟨b', cur, rfl, ?_, hc⟩
    rw [hg.block b' (lt_block hh) ?_]; exact hh
    intro e
    simp only [Option.some.injEq] at e
    subst e
    have := hT.block
    rw [hh] at this
    simp at this
theorem Row3.row {w : World} {g : Option Addr} {xs : List Int} (h : Row3 w g xs) : RowIn w g xs := by
  rcases h with h | ⟨b, cur, rfl, hh, hc⟩
  · exact .inl h
  · exact .inr ⟨b, 0, rfl, lt_block hh, fun j hj => by rw [Nat.zero_add, cell_of_row _ _ _ _ _ _ hh]; exact hc j hj⟩
theorem own_shape3 {w : World} {B n : Nat} {v : Value} {xs : List Int} (h : w.ownsRow B 3 1 v n (xs.map (Value.int .i64))) : ∃ g cap, v = .slice g n cap ∧ Row3 w g xs := by
  rcases h.2 with ⟨rfl, rfl⟩ | ⟨g, cap, cur, rfl, hr⟩
  · exact ⟨none, 0, rfl, Row3.of h⟩
  · exact ⟨_, cap, rfl, Row3.of h⟩

/-- A list is left by an append to one that was made behind it. -/
theorem Row3.past {w w' : World} {g : Option Addr} {xs : List Int} {o : Obj} (h : Row3 w g xs) (hg : (w.alloc o).grownBy w' (some w.heap.size)) : Row3 w' g xs := by
  rcases h with h | ⟨b', cur, rfl, hh, hc⟩
  · exact .inl h
  · have hlt := lt_block hh
    refine .inr ⟨b', cur, rfl, ?_, hc⟩
    rw [hg.block b' (by simp; omega) (by simp only [ne_eq, Option.some.injEq]; omega), Below.heap_alloc _ _ _ hlt]; exact hh

set_option maxRecDepth 100000 in
set_option maxHeartbeats 4000000 in
theorem undo_any (g0 g1 : Option Addr) (c0 c1 : Nat) (os rs : List Int) (side : Bool) (a : Int) (w : World) (h0 : RowArg w g0 c0 os) (h1 : RowArg w g1 c1 rs) :
    Calls Try.prog 7 #[.slice g0 os.length c0, .slice g1 rs.length c1, .bool side, .int .i64 a] w fun e w' => e = .returned (.bool true) ∧ Below w.heap.size w w' := by
  by_cases hb0 : 100 < os.length
  · have hb0' : (100 : Int) < (os.length : Int) := by omega
    clear h0 h1
    go_enter Try.func7, Try.ntmps7
    go_wp2_with (go_at_call 20; refine (works27 _).mono ?_; rintro e w1 ⟨rfl, hb⟩)
    go_ret
    exact ⟨rfl, hb⟩
  · by_cases hb1 : 100 < rs.length
    · have hb1' : (100 : Int) < (rs.length : Int) := by omega
      clear h0 h1
      go_enter Try.func7, Try.ntmps7
      go_wp2_with (go_at_call 20; refine (works27 _).mono ?_; rintro e w1 ⟨rfl, hb⟩)
      go_ret
      exact ⟨rfl, hb⟩
    · obtain ⟨o1, o2⟩ := sFold_ok os
      obtain ⟨r1, r2⟩ := sFold_ok rs
      have l0' : (os.length : Int) ≤ 100 := by omega
      have l1' : (rs.length : Int) ≤ 100 := by omega
      go_enter Try.func7, Try.ntmps7
      go_wp2_with (first
        | (go_at_call 20; refine (works27 _).mono ?_; rintro e w1 ⟨rfl, hw1⟩; have hr0 := (h0.later hw1).later ((Below.refl _ _).alloc (Nat.le_refl _) (.cells #[] 3)))
        | (refine wpList_append_src rfl (.tmp 27) (.tmp 28) rfl w1.heap.size _ 0 [] rfl (World.ownsRow_made w1 #[] 0 (Nat.le_refl _) (by decide) rfl) g0 c0 os rfl hr0 ?lim ?base ?_)
        | fail)
      case lim => omega
      case base => simp
      intro v1 w2 own1 gr1
      obtain ⟨gs, cs, rfl, rs1⟩ := own_shape3 own1
      have hw2 : Below w.heap.size w w2 := (hw1.alloc hw1.size _).grown gr1 (by have := hw1.size; simp; omega) (fun j hj => by simp only [Value.ownBlock, Option.some.injEq] at hj; have := hw1.size; omega)
      have hr1 := (h1.later hw2).later ((Below.refl _ _).alloc (Nat.le_refl _) (.cells #[] 3))
      clear own1 gr1 hr0 hw1 h0
      go_wp2_with (refine wpList_append_src rfl (.tmp 30) (.tmp 31) rfl w2.heap.size _ 0 [] rfl (World.ownsRow_made w2 #[] 0 (Nat.le_refl _) (by decide) rfl) g1 c1 rs rfl hr1 ?lim ?base ?_)
      case lim => omega
      case base => simp
      intro v2 w3 own2 gr2
      obtain ⟨gt, ct, rfl, rt1⟩ := own_shape3 own2
      have hw3 : Below w.heap.size w w3 := (hw2.alloc hw2.size _).grown gr2 (by have := hw2.size; simp; omega) (fun j hj => by simp only [Value.ownBlock, Option.some.injEq] at hj; have := hw2.size; omega)
      have rs2 := rs1.past gr2
      clear own2 gr2 hr1 hw2 h1 rs1
      go_wp2_with fail
      refine (new_any _ _ _ _ os rs _ rs2.row rt1.row (by omega) (by omega)).mono ?_
      rintro e w4 ⟨b, rfl, hbl, hT, hb4⟩
      have hlb : w.heap.size ≤ b := Nat.le_trans hw3.size hbl
      have hw4 := hw3.trans (hb4.mono hw3.size)
      clear rs2 rt1 hw3 hb4 hbl hb0 hb1
      generalize sFold os = O at *
      generalize sFold rs = R at *
      go_wp2_with fail
      refine (alls_own _ _ _ _ hT).mono ?_
      rintro e w5 ⟨gA, capA, rfl, ownA, hb5⟩
      have rA := Row3.of ownA
      have hT5 := hT.below hb5
      have hw5 := hw4.trans (hb5.mono hw4.size)
      clear hT hw4 hb5 ownA
      go_wp2_with fail
      refine (alls_other _ _ _ _ hT5).mono ?_
      rintro e w6 ⟨gC, capC, rfl, ownC, hb6⟩
      have rC := Row3.of ownC
      have hT6 := hT5.below hb6
      have rA6 := rA.later hb6
      have hw6 := hw5.trans (hb6.mono hw5.size)
      clear hT5 hw5 hb6 ownC rA
      go_wp2_with fail
      obtain ⟨N, hN⟩ : ∃ N, (rl O 16).length * (rl R 16).length = N := ⟨_, rfl⟩
      have hlen : ∀ O' R' : List Bool, (rows (rl O' 16) (rl R' 16) (rl O' 16).length).length = (rl O' 16).length * (rl R' 16).length := fun O' R' => by rw [rows_length, Nat.min_self]
      have HL := Lib.hid hlen
      have HN := Lib.hid hN
      clear hlen hN
      refine (places_at (n := N) _ hT6 rfl (by rw [HL.out, HN.out])).mono ?_
      rintro e w7 ⟨gL, cap, rfl, ownL, hb7⟩
      have hT7 := hT6.below hb7
      have rA7 := rA6.later hb7
      have rC7 := rC.later hb7
      have hw7 := hw6.trans (hb7.mono hw6.size)
      clear hT6 rA6 rC hw6 hb7 ownL
      have hNle : N ≤ 16 := by rw [← HN.out]; exact Nat.le_trans (Nat.mul_le_mul o2 r2) (by decide)
      go_wp2_with fail
      have hlo := hw7.size
      by_cases hc : sAddC (sideOf side O R) a = 0
      · cases side
        · have hc0 : sAddC R a = 0 := hc
          have hcnt := undo_count R a hc0 r1
          have hh : sHas (sideOf false O (sAdd R a)) a = true := undo_has R a hc0 r1
          have HN1 : Hid ((rl O 16).length * (rl (sAdd R a) 16).length = N + (rl O 16).length) := by
            show (rl O 16).length * (rl (sAdd R a) 16).length = _
            rw [hcnt, ← HN.out]; rw [Nat.mul_succ]
          have HC := Lib.hid hcnt
          clear hcnt
          refine (add_any b false a O R _ hT7).mono ?_
          rintro e w8 ⟨rfl, hT8', g8⟩
          have hT8 : TabAt w8 b O (sAdd R a) := hT8'
          have hw8 := below_row hw7 g8 hlb hlo
          have rA8 := rA7.tab hT7 g8
          have rC8 := rC7.tab hT7 g8
          clear hT8' hT7 g8 rA7 rC7
          go_wp2_with fail
          refine (places_at (n := N + (rl O 16).length) _ hT8 rfl (by rw [HL.out, HN1.out])).mono ?_
          rintro e w9 ⟨gL2, cap2, rfl, ownL2, hb9⟩
          have hT9 := hT8.below hb9
          have hw9 := hw8.trans (hb9.mono hw8.size)
          have rA9 := rA8.later hb9
          have rC9 := rC8.later hb9
          clear hT8 hw8 rA8 rC8 ownL2 hb9
          by_cases hal : (rl R 16).length = 0
          · obtain ⟨d1, d2⟩ := undo_alone R a hc0 r1 hal
            have d1' : sDropC (sideOf false O (sAdd R a)) a = 16 := d1
            have hz : (((rl R 16).length : Int) == 0) = true := by rw [hal]; rfl
            clear d1 hal
            go_wp2_with (first
              | (go_at_call 28; refine (has_any b false a O (sAdd R a) _ (by assumption)).mono ?_; rintro e w' ⟨rfl, rfl⟩)
              | (go_at_call 27; refine (drop_any b false a O (sAdd R a) _ hT9).mono ?_; rintro e w10 ⟨rfl, hT10', g10⟩; have hT10 : TabAt w10 b O (sAdd R a) := (by have := hT10'; simp only [d2, Bool.false_eq_true, if_false] at this; exact this); have hw10 := below_row hw9 g10 hlb hw9.size; clear hT10' g10 hT9))
            go_ret
            exact ⟨rfl, hw10⟩
          · obtain ⟨d1, d2⟩ := undo_back R a hc0 r1 hal
            have d1' : sDropC (sideOf false O (sAdd R a)) a = 0 := d1
            have hz : (((rl R 16).length : Int) == 0) = false := by rw [beq_eq_false_iff_ne]; omega
            clear d1 hal
            go_wp2_with (first
              | (go_at_call 28; refine (has_any b false a O (sAdd R a) _ hT9).mono ?_; rintro e w' ⟨rfl, rfl⟩)
              | fail)
            refine (drop_any b false a O (sAdd R a) _ hT9).mono ?_
            rintro e w10 ⟨rfl, hT10', g10⟩
            have hT10 : TabAt w10 b O R := by have := hT10'; simp only [d2, Bool.false_eq_true, if_false] at this; exact this
            have hw10 := below_row hw9 g10 hlb hw9.size
            have rA10 := rA9.tab hT9 g10
            have rC10 := rC9.tab hT9 g10
            clear hT10' g10 hT9 hw9 rA9 rC9
            go_wp2_with fail
            refine (alls_own _ _ _ _ hT10).mono ?_
            rintro e w11 ⟨gA2, capA2, rfl, ownA2, hb11⟩
            have rA11 := Row3.of ownA2
            go_wp2_with fail
            refine (ints_same _ _ _ _ _ _ rA11.row (rA10.later hb11).row (by omega)).mono ?_
            rintro e w12 ⟨rfl, hb12⟩
            have hT12 := (hT10.below hb11).below hb12
            have rC12 := (rC10.later hb11).later hb12
            have hw12 := (hw10.trans (hb11.mono hw10.size)).trans (hb12.mono (Nat.le_trans hw10.size hb11.size))
            clear hT10 rC10 rA10 rA11 ownA2 hb11 hb12 hw10
            go_wp2_with fail
            refine (alls_other _ _ _ _ hT12).mono ?_
            rintro e w13 ⟨gC2, capC2, rfl, ownC2, hb13⟩
            have rC13 := Row3.of ownC2
            go_wp2_with fail
            refine (ints_same _ _ _ _ _ _ rC13.row (rC12.later hb13).row (by omega)).mono ?_
            rintro e w14 ⟨rfl, hb14⟩
            have hT14 := (hT12.below hb13).below hb14
            have hw14 := (hw12.trans (hb13.mono hw12.size)).trans (hb14.mono (Nat.le_trans hw12.size hb13.size))
            clear hT12 rC12 rC13 ownC2 hb13 hb14 hw12
            go_wp2_with fail
            refine (places_at (n := N) _ hT14 rfl (by rw [HL.out, HN.out])).mono ?_
            rintro e w15 ⟨gL3, cap3, rfl, ownL3, hb15⟩
            have hw15 := hw14.trans (hb15.mono hw14.size)
            clear hT14 ownL3 hb15 hw14
            go_wp2_with fail
            go_ret
            exact ⟨rfl, hw15⟩
        · have hc0 : sAddC O a = 0 := hc
          have hcnt := undo_count O a hc0 o1
          have hh : sHas (sideOf true (sAdd O a) R) a = true := undo_has O a hc0 o1
          have HN1 : Hid ((rl (sAdd O a) 16).length * (rl R 16).length = N + (rl R 16).length) := by
            show (rl (sAdd O a) 16).length * (rl R 16).length = _
            rw [hcnt, ← HN.out]; rw [Nat.succ_mul]
          have HC := Lib.hid hcnt
          clear hcnt
          refine (add_any b true a O R _ hT7).mono ?_
          rintro e w8 ⟨rfl, hT8', g8⟩
          have hT8 : TabAt w8 b (sAdd O a) R := hT8'
          have hw8 := below_row hw7 g8 hlb hlo
          have rA8 := rA7.tab hT7 g8
          have rC8 := rC7.tab hT7 g8
          clear hT8' hT7 g8 rA7 rC7
          go_wp2_with fail
          refine (places_at (n := N + (rl R 16).length) _ hT8 rfl (by rw [HL.out, HN1.out])).mono ?_
          rintro e w9 ⟨gL2, cap2, rfl, ownL2, hb9⟩
          have hT9 := hT8.below hb9
          have hw9 := hw8.trans (hb9.mono hw8.size)
          have rA9 := rA8.later hb9
          have rC9 := rC8.later hb9
          clear hT8 hw8 rA8 rC8 ownL2 hb9
          by_cases hal : (rl O 16).length = 0
          · obtain ⟨d1, d2⟩ := undo_alone O a hc0 o1 hal
            have d1' : sDropC (sideOf true (sAdd O a) R) a = 16 := d1
            have hz : (((rl O 16).length : Int) == 0) = true := by rw [hal]; rfl
            clear d1 hal
            go_wp2_with (first
              | (go_at_call 28; refine (has_any b true a (sAdd O a) R _ (by assumption)).mono ?_; rintro e w' ⟨rfl, rfl⟩)
              | (go_at_call 27; refine (drop_any b true a (sAdd O a) R _ hT9).mono ?_; rintro e w10 ⟨rfl, hT10', g10⟩; have hT10 : TabAt w10 b (sAdd O a) R := (by have := hT10'; simp only [d2, if_true] at this; exact this); have hw10 := below_row hw9 g10 hlb hw9.size; clear hT10' g10 hT9))
            go_ret
            exact ⟨rfl, hw10⟩
          · obtain ⟨d1, d2⟩ := undo_back O a hc0 o1 hal
            have d1' : sDropC (sideOf true (sAdd O a) R) a = 0 := d1
            have hz : (((rl O 16).length : Int) == 0) = false := by rw [beq_eq_false_iff_ne]; omega
            clear d1 hal
            go_wp2_with (first
              | (go_at_call 28; refine (has_any b true a (sAdd O a) R _ hT9).mono ?_; rintro e w' ⟨rfl, rfl⟩)
              | fail)
            refine (drop_any b true a (sAdd O a) R _ hT9).mono ?_
            rintro e w10 ⟨rfl, hT10', g10⟩
            have hT10 : TabAt w10 b O R := by have := hT10'; simp only [d2, if_true] at this; exact this
            have hw10 := below_row hw9 g10 hlb hw9.size
            have rA10 := rA9.tab hT9 g10
            have rC10 := rC9.tab hT9 g10
            clear hT10' g10 hT9 hw9 rA9 rC9
            go_wp2_with fail
            refine (alls_own _ _ _ _ hT10).mono ?_
            rintro e w11 ⟨gA2, capA2, rfl, ownA2, hb11⟩
            have rA11 := Row3.of ownA2
            go_wp2_with fail
            refine (ints_same _ _ _ _ _ _ rA11.row (rA10.later hb11).row (by omega)).mono ?_
            rintro e w12 ⟨rfl, hb12⟩
            have hT12 := (hT10.below hb11).below hb12
            have rC12 := (rC10.later hb11).later hb12
            have hw12 := (hw10.trans (hb11.mono hw10.size)).trans (hb12.mono (Nat.le_trans hw10.size hb11.size))
            clear hT10 rC10 rA10 rA11 ownA2 hb11 hb12 hw10
            go_wp2_with fail
            refine (alls_other _ _ _ _ hT12).mono ?_
            rintro e w13 ⟨gC2, capC2, rfl, ownC2, hb13⟩
            have rC13 := Row3.of ownC2
            go_wp2_with fail
            refine (ints_same _ _ _ _ _ _ rC13.row (rC12.later hb13).row (by omega)).mono ?_
            rintro e w14 ⟨rfl, hb14⟩
            have hT14 := (hT12.below hb13).below hb14
            have hw14 := (hw12.trans (hb13.mono hw12.size)).trans (hb14.mono (Nat.le_trans hw12.size hb13.size))
            clear hT12 rC12 rC13 ownC2 hb13 hb14 hw12
            go_wp2_with fail
            refine (places_at (n := N) _ hT14 rfl (by rw [HL.out, HN.out])).mono ?_
            rintro e w15 ⟨gL3, cap3, rfl, ownL3, hb15⟩
            have hw15 := hw14.trans (hb15.mono hw14.size)
            clear hT14 ownL3 hb15 hw14
            go_wp2_with fail
            go_ret
            exact ⟨rfl, hw15⟩
      · have e1 : (if side then sAdd O a else O) = O := by
          cases side
          · rfl
          · exact undo_same O a hc
        have e2 : (if side then R else sAdd R a) = R := by
          cases side
          · exact undo_same R a hc
          · rfl
        have hu := undo_not (sideOf side O R) a
        have hne : (sAddC (sideOf side O R) a == 0) = false := by rw [beq_eq_false_iff_ne]; exact hc
        refine (add_any b side a O R _ hT7).mono ?_
        rintro e w8 ⟨rfl, hT8, g8⟩
        rw [e1, e2] at hT8
        have hw8 := below_row hw7 g8 hlb hlo
        clear e1 e2 hc hT7 g8 rA7 rC7
        go_wp2_with (first
          | (go_at_call 23; refine (places_at (n := N) _ hT8 rfl (by rw [HL.out, HN.out])).mono ?_; rintro e w9 ⟨gL2, cap2, rfl, ownL2, hb9⟩; have hT9 := hT8.below hb9; have hw9 := hw8.trans (hb9.mono hw8.size); clear ownL2 hb9)
          | (go_at_call 28; refine (has_any b side a O R _ hT9).mono ?_; rintro e w10 ⟨rfl, rfl⟩))
        go_ret
        exact ⟨rfl, hw9⟩

end Go.Proofs.Ytafmkalepgcnkaa
