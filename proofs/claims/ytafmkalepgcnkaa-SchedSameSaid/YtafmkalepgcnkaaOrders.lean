/-
  The law SchedOrders, walked.
-/
import Derived.Test.YtafmkalepgcnkaaPlaces31
import Derived.BigQuiet
namespace Go.Proofs.Ytafmkalepgcnkaa
open Go.RowKit Go.Sort

theorem pick_snoc : ∀ (s : List Pl) (p : Pl), pick (s ++ [p]) = if (pick s).2 then pick s else if p.ch.room then (p.ch.id, true) else pick s
  | [], p => by simp [pick]
  | q :: s, p => by
    have ih := pick_snoc s p
    rw [List.cons_append, pick, pick, ih]
    cases q.ch.room <;> simp
theorem pick_take (s : List Pl) (k : Nat) (p : Pl) (h : s[k]? = some p) : pick (s.take (k + 1)) = if (pick (s.take k)).2 then pick (s.take k) else if p.ch.room then (p.ch.id, true) else pick (s.take k) := by
  rw [List.take_add_one, h]; exact pick_snoc _ _
theorem srt_not (l : List Ch) (j k : Nat) (p q : Pl) (hjk : j < k) (hj : (srt l)[j]? = some p) (hk : (srt l)[k]? = some q) : bet q.ch p.ch = false := by
  obtain ⟨h1, rfl⟩ := List.getElem?_eq_some_iff.1 hj
  obtain ⟨h2, rfl⟩ := List.getElem?_eq_some_iff.1 hk
  have h := lt2_asymm (List.pairwise_iff_getElem.1 (srt_ok l).sorted j k h1 h2 hjk)
  unfold lt2 at h
  cases hb : bet (srt l)[k].ch (srt l)[j].ch
  · rfl
  · rw [hb] at h; cases h

/-- The k-th best: where it is told, and what it is. -/
theorem srt_place (l : List Ch) (k : Nat) (hk : k < l.length) : ∃ (x : Nat) (c : Ch), x < l.length ∧ l[x]? = some c ∧ (srt l)[k]? = some ⟨c, (x : Int)⟩ ∧ (poss l)[k]?.getD 0 = (x : Int) := by
  have hs : k < (srt l).length := by rw [srt_length]; exact hk
  have hsk := List.getElem?_eq_getElem hs
  obtain ⟨x, hx, hxl⟩ := srt_at l k _ hsk
  refine ⟨x, l[x], hxl, List.getElem?_eq_getElem hxl, ?_, ?_⟩
  · rw [hsk, hx]; simp [pa, List.getElem?_eq_getElem hxl]
  · rw [poss_get, hsk, hx]; rfl

/-- A path, boxed. -/
def BoxAt (w : World) (b : Nat) (i p q : Int) (r : Bool) : Prop := w.heap[b]? = some (.cells #[.int .i64 i, .int .i64 p, .int .i64 q, .bool r] 57 (0, 0))
theorem BoxAt.later {w w' : World} {b : Nat} {i p q : Int} {r : Bool} (h : BoxAt w b i p q r) (hb : Below w.heap.size w w') : BoxAt w' b i p q r := (hb.block b (lt_block h)).trans h
theorem BoxAt.past {w w' : World} {b : Nat} {i p q : Int} {r : Bool} {B n : Nat} {v : Value} {xs : List Value} (h : BoxAt w b i p q r) (hown : w.ownsRow B 3 1 v n xs) (hg : w.grownBy w' v.ownBlock) : BoxAt w' b i p q r := by
  unfold BoxAt
  rw [hg.block b (lt_block h) ?_]; exact h
  rcases hown.2 with ⟨rfl, _⟩ | ⟨g', cap', cur', rfl, _, hg', _⟩
  · simp [Value.ownBlock]
  · intro e
    simp only [Value.ownBlock, Option.some.injEq] at e
    subst e
    rw [h] at hg'
    simp at hg'
theorem BoxAt.cells {w : World} {b : Nat} {i p q : Int} {r : Bool} (h : BoxAt w b i p q r) : w.cell? ⟨b, 0, none⟩ = some (.int .i64 i) ∧ w.cell? ⟨b, 1, none⟩ = some (.int .i64 p) ∧ w.cell? ⟨b, 2, none⟩ = some (.int .i64 q) ∧ w.cell? ⟨b, 3, none⟩ = some (.bool r) := by
  refine ⟨?_, ?_, ?_, ?_⟩ <;> (rw [cell_of_row _ _ _ _ _ _ h]; rfl)
/-- An append to another list of integers of the call's own. -/
theorem Row3.grown {w w' : World} {g : Option Addr} {xs : List Int} {row : Option Nat} (h : Row3 w g xs) (hg : w.grownBy w' row) (hne : ∀ b, g = some ⟨b, 0, none⟩ → some b ≠ row) : Row3 w' g xs := by
  rcases h with h | ⟨b, cur, rfl, hh, hc⟩
  · exact .inl h
  · exact .inr ⟨b, cur, rfl, (hg.block b (lt_block hh) (hne b rfl)).trans hh, hc⟩

theorem ChIn.cellsAt {w : World} {b off : Nat} {l : List Ch} (h : ChIn w (some ⟨b, off, none⟩) l) {x : Nat} {i p q : Int} {r : Bool} (hx : l[x]? = some ⟨i, p, q, r⟩) : b < w.heap.size ∧
    w.cell? ⟨b, off + x * 4, none⟩ = some (.int .i64 i) ∧ w.cell? ⟨b, off + x * 4 + 1, none⟩ = some (.int .i64 p) ∧ w.cell? ⟨b, off + x * 4 + 2, none⟩ = some (.int .i64 q) ∧ w.cell? ⟨b, off + x * 4 + 3, none⟩ = some (.bool r) := by
  rcases h with rfl | ⟨b', off', hg, hlt, hc⟩
  · simp at hx
  · simp only [Option.some.injEq, Addr.mk.injEq, and_true] at hg
    obtain ⟨rfl, rfl⟩ := hg
    exact ⟨hlt, hc x _ hx⟩
theorem Row3.cellAt {w : World} {b : Nat} {xs : List Int} (h : Row3 w (some ⟨b, 0, none⟩) xs) {k : Nat} (hk : k < xs.length) : b < w.heap.size ∧ w.cell? ⟨b, k, none⟩ = some (.int .i64 (xs[k]?.getD 0)) := by
  rcases h with rfl | ⟨b', cur, hg, hh, hc⟩
  · simp at hk
  · simp only [Option.some.injEq, Addr.mk.injEq, and_true] at hg
    subst hg
    exact ⟨lt_block hh, by rw [cell_of_row _ _ _ _ _ _ hh]; exact hc k hk⟩

theorem ChIn.some {w : World} {g : Option Addr} {l : List Ch} (h : ChIn w g l) (hl : 0 < l.length) : ∃ b off, g = Option.some ⟨b, off, none⟩ := by
  rcases h with rfl | ⟨b, off, hg, _⟩
  · simp at hl
  · exact ⟨b, off, hg⟩

/-- What the trial of one path finds. -/
theorem better_grown {x y : Ch} {v : Bool} (h : bet x y = v) (W : World) : Calls Try.prog 36 #[.agg (chV x), .agg (chV y)] W fun e w' => e = .returned (.bool v) ∧ ∃ q os', w' = grow (W.drewN q) os' := better_at x y v h W
theorem refBetter_grown {x y : Ch} {v : Bool} (h : bet x y = v) (W : World) : Calls Try.prog 37 #[.agg (chV x), .agg (chV y)] W fun e w' => e = .returned (.bool v) ∧ ∃ q os', w' = grow (W.drewN q) os' := by
  rw [← h]; exact refBetter_any x y W

set_option maxHeartbeats 16000000 in
set_option maxRecDepth 100000 in
theorem orders_any (g : Option Addr) (c : Nat) (l : List Ch) (w : World) (h : ChIn w g l) :
    Calls Try.prog 9 #[.slice g l.length c] w fun e w' => e = .returned (.bool true) ∧ Below w.heap.size w w' := by
  by_cases h60 : 60 < l.length
  · have h60z : (60 : Int) < (l.length : Int) := by omega
    clear h
    go_enter Try.func9, Try.ntmps9
    go_wp2_with (go_at_call 32; refine (works31 _).mono ?_; rintro e w1 ⟨rfl, hb⟩)
    go_ret
    exact ⟨rfl, hb⟩
  · obtain ⟨i0, hi, hz0, hz1, hz2⟩ := info_parts Try.info3
    have mixed : Try.prog.follows .mixedOrders = true := by kernel_rfl
    have h60n : l.length ≤ 60 := by omega
    have h60z : (l.length : Int) ≤ 60 := by omega
    have HPL := Lib.hid (poss_length l)
    have HSL := Lib.hid (srt_length l)
    clear h60
    go_enter Try.func9, Try.ntmps9
    go_wp2_with fail
    refine (works31 _).mono ?_
    rintro e w1 ⟨rfl, hb1⟩
    go_wp2_with fail
    refine (placesRef_any g c l _ (h.later hb1) h60n).mono ?_
    rintro e w2 ⟨gp, cp, rfl, hownp, hb2⟩
    have hR := Row3.of hownp
    have hbw := hb1.trans (hb2.mono hb1.size)
    have hC := h.later hbw
    clear hownp hb1 hb2 h
    go_wp2_with fail
    go_loopw [4, 5, 6, 7] (fun v s5 s6 t wr => ∃ k : Nat, k ≤ l.length ∧ t = .int .i64 k ∧ s5 = .int .i64 (pick ((srt l).take k)).1 ∧ s6 = .bool (pick ((srt l).take k)).2 ∧ wr.ownsRow w2.heap.size 3 1 v k ((ids ((srt l).take k)).map (Value.int .i64)) ∧ Below w2.heap.size w2 wr) (fun _ _ _ t _ => l.length - (intOf t).toNat)
    case atStart => exact ⟨0, Nat.zero_le _, rfl, rfl, rfl, World.ownsRow_nil _ _ _ _, Below.refl _ _⟩
    case round =>
      obtain ⟨k, hk, rfl, rfl, rfl, hown, hb⟩ := hrel
      have hsz := hb.size
      by_cases hlt : k < l.length
      · have hltz : (k : Int) < (l.length : Int) := by omega
        obtain ⟨x, ch, hx, hlx, hsk, hpx⟩ := srt_place l k hlt
        obtain ⟨i1, p1, q1, r1⟩ := ch
        have hxz : (x : Int) < (l.length : Int) := by omega
        have hkp : k < (poss l).length := by rw [HPL.out]; exact hlt
        obtain ⟨bp, rfl, cpk⟩ := (hR.later hb).get hkp
        rw [hpx] at cpk
        obtain ⟨b0, o0, rfl⟩ := hC.some (by omega)
        obtain ⟨hblt, d0, d1, d2, d3⟩ := (hC.later hb).cellsAt hlx
        have HPK := Lib.hid (pick_take _ k _ hsk)
        have HIDS := Lib.hid (ids_take _ k _ hsk)
        have HSK := Lib.hid hsk
        have HLX := Lib.hid hlx
        obtain ⟨pv, hpv⟩ : ∃ pv, pick ((srt l).take k) = pv := ⟨_, rfl⟩
        rw [hpv] at HPK
        rw [hpv]
        obtain ⟨idv, isv⟩ := pv
        have HB1 := (Below.refl wr.heap.size wr).alloc (Nat.le_refl _) (.cells #[.int .i64 i1, .int .i64 p1, .int .i64 q1, .bool r1] 57)
        have hbox : BoxAt ((wr.alloc (.cells #[.int .i64 i1, .int .i64 p1, .int .i64 q1, .bool r1] 57)).alloc (.cells #[.int .i64 i1] 3)) wr.heap.size i1 p1 q1 r1 := by
          unfold BoxAt
          rw [heap_alloc_old _ _ (by simp), heap_alloc_new]
        clear hpv hsk hlx hpx HB1
        have hkn : k < 60 := by omega
        go_wp2_with (at_builtin; refine wpList_append_own _ rfl _ _ 23 rfl w2.heap.size 3 i0 (.int .i64 0) 1 8 Try.underlying23 hi hz0 hz1 hz2 rfl (by decide) _ _ _ rfl ((hown.alloc _).alloc _) ⟨wr.heap.size + 1, 0, none⟩ 1 1 [.int .i64 i1] rfl rfl ?k1 ?k2 ?k3 ?k4 ?k5 ?_)
        case k2 => rfl
        case k3 => unfold maxLen; omega
        case k4 => omega
        case k5 => omega
        intro v' w3 hown' hgrow _
        have hbox3 := hbox.past ((hown.alloc _).alloc _) hgrow
        have hb3 : Below w2.heap.size w2 w3 := ((hb.alloc hsz _).alloc (by simp; omega) _).grown hgrow (by simp; omega) (fun j hj => (hown.lt j hj).1)
        clear hown hgrow hbox hb d0 d1 d2 d3 hblt
        obtain ⟨y0, y1, y2, y3⟩ := hbox3.cells
        have hbxlt := lt_block hbox3
        generalize wr.heap.size = bx at *
        clear hbox3
        have hn0 : 0 < l.length := by omega
        have hn0z : (0 : Int) < (l.length : Int) := by omega
        obtain ⟨ch0, hl0⟩ : ∃ ch0, l[0]? = Option.some ch0 := ⟨_, List.getElem?_eq_getElem hn0⟩
        obtain ⟨i3, p3, q3, r3⟩ := ch0
        obtain ⟨bv, hbv⟩ : ∃ bv, bet ⟨i1, p1, q1, r1⟩ ⟨i3, p3, q3, r3⟩ = bv := ⟨_, rfl⟩
        have HC2 := Lib.hid (better_grown hbv)
        have HC3 := Lib.hid (refBetter_grown hbv)
        unfold chV at HC2 HC3
        simp only at HC2 HC3
        have hbv1 : (bv != bv) = false := by cases bv <;> rfl
        clear hbv
        obtain ⟨hz1', x0, x1, x2, x3⟩ := (hC.later hb3).cellsAt hl0
        have c0 := fun n os => cell_grown (a := ⟨bx, 0, none⟩) hbxlt y0 n os
        have c1 := fun n os => cell_grown (a := ⟨bx, 1, none⟩) hbxlt y1 n os
        have c2 := fun n os => cell_grown (a := ⟨bx, 2, none⟩) hbxlt y2 n os
        have c3 := fun n os => cell_grown (a := ⟨bx, 3, none⟩) hbxlt y3 n os
        have e0 := fun n os => cell_grown (a := ⟨b0, o0 + 0 * 4, none⟩) hz1' x0 n os
        have e1 := fun n os => cell_grown (a := ⟨b0, o0 + 0 * 4 + 1, none⟩) hz1' x1 n os
        have e2 := fun n os => cell_grown (a := ⟨b0, o0 + 0 * 4 + 2, none⟩) hz1' x2 n os
        have e3 := fun n os => cell_grown (a := ⟨b0, o0 + 0 * 4 + 3, none⟩) hz1' x3 n os
        simp only [Nat.zero_mul, Nat.add_zero] at e0 e1 e2 e3
        clear x0 x1 x2 x3 hz1'
        clear hl0
        by_cases hk0 : k = 0
        · have hkn0 : ¬ 0 < k := by omega
          clear hk0
          cases r1 <;> cases isv
          all_goals
            go_wp2_with fail
            refine wp_region_quiet_grown (by assumption) (by kernel_rfl) ?_
            repeat (go_big_quiet_step ((first
              | (go_at_call 36; ((with_reducible refine Calls.grown_of (HC2.out _))))
              | (go_at_call 37; ((with_reducible refine Calls.grown_of (HC3.out _)))))))
            refine wpQuiet_nil ?_
            intro _ hw'
            obtain ⟨⟨nq, osq⟩, hw''⟩ := hw'
            subst hw''
            have hgr : Gro w3 (grow (w3.drewN nq) osq) := ⟨nq, osq, rfl⟩
            have hown2 := owns_below hown' hgr.below
            have hb4 := hb3.trans (hgr.below.mono hb3.size)
            clear c0 c1 c2 c3 e0 e1 e2 e3 hown' hb3 hgr y0 y1 y2 y3
            generalize grow (w3.drewN nq) osq = w4 at *
            go_wp2
            go_roundw
            case rel => exact ⟨k + 1, by omega, by go_num, by rw [HPK.out]; rfl, by rw [HPK.out]; rfl, by rw [HIDS.out, List.map_append]; exact hown2, hb4⟩
            case measure => simp [intOf]; omega
        · obtain ⟨kp, rfl⟩ : ∃ kp, k = kp + 1 := ⟨k - 1, by omega⟩
          obtain ⟨y, chy, hy, hly, hsy, hpy⟩ := srt_place l kp (by omega)
          obtain ⟨i2, p2, q2, r2⟩ := chy
          obtain ⟨hz2', x0, x1, x2, x3⟩ := (hC.later hb3).cellsAt hly
          obtain ⟨hz3', x4⟩ := (hR.later hb3).cellAt (show kp < (poss l).length by rw [HPL.out]; omega)
          rw [hpy] at x4
          have f0 := fun n os => cell_grown (a := ⟨b0, o0 + y * 4, none⟩) hz2' x0 n os
          have f1 := fun n os => cell_grown (a := ⟨b0, o0 + y * 4 + 1, none⟩) hz2' x1 n os
          have f2 := fun n os => cell_grown (a := ⟨b0, o0 + y * 4 + 2, none⟩) hz2' x2 n os
          have f3 := fun n os => cell_grown (a := ⟨b0, o0 + y * 4 + 3, none⟩) hz2' x3 n os
          have f4 := fun n os => cell_grown (a := ⟨bp, kp, none⟩) hz3' x4 n os
          have hbt := srt_not l kp (kp + 1) _ _ (by omega) hsy HSK.out
          have HC1 := Lib.hid (better_grown hbt)
          unfold chV at HC1
          simp only at HC1
          have hkd : decide ((0 : Int) < (kp : Int) + 1) = true := decide_eq_true (by omega)
          have hkp0 : (0 : Int) < (kp : Int) + 1 := by omega
          have hyz : (y : Int) < (l.length : Int) := by omega
          have hkz1 : (kp : Int) < (l.length : Int) := by omega
          have hkz2 : (0 : Int) ≤ (kp : Int) := by omega
          have hkw : IntKind.i64.wrap (kp : Int) = (kp : Int) := by rw [IntKind.wrap_i64]; omega
          have hkt : ((kp : Int)).toNat = kp := by omega
          have hyt : ((y : Int)).toNat = y := by omega
          clear hbt hly hsy hpy x0 x1 x2 x3 x4 hk0 hz2' hz3' cpk
          cases r1 <;> cases isv
          all_goals
            go_wp2_with fail
            refine wp_region_quiet_grown (by assumption) (by kernel_rfl) ?_
            repeat (go_big_quiet_step ((first
              | (go_at_call 36; ((with_reducible refine Calls.grown_of (HC1.out _))))
              | (go_at_call 36; ((with_reducible refine Calls.grown_of (HC2.out _))))
              | (go_at_call 37; ((with_reducible refine Calls.grown_of (HC3.out _)))))))
            refine wpQuiet_nil ?_
            intro _ hw'
            obtain ⟨⟨nq, osq⟩, hw''⟩ := hw'
            subst hw''
            have hgr : Gro w3 (grow (w3.drewN nq) osq) := ⟨nq, osq, rfl⟩
            have hown2 := owns_below hown' hgr.below
            have hb4 := hb3.trans (hgr.below.mono hb3.size)
            clear c0 c1 c2 c3 e0 e1 e2 e3 f0 f1 f2 f3 f4 hown' hb3 hgr y0 y1 y2 y3
            generalize grow (w3.drewN nq) osq = w4 at *
            go_wp2
            go_roundw
            case rel => exact ⟨kp + 1 + 1, by omega, by go_num, by rw [HPK.out]; rfl, by rw [HPK.out]; rfl, by rw [HIDS.out, List.map_append]; exact hown2, hb4⟩
            case measure => simp [intOf]; omega
      · obtain rfl : k = l.length := by omega
        have ht : (srt l).take l.length = srt l := by rw [← HSL.out, List.take_length]
        rw [ht] at hown
        rw [ht]
        clear ht hlt hk
        have hw := hbw.trans (hb.mono hbw.size)
        have hC1 := hC.later hb
        have hp := pick_any g c l wr hC1 h60n
        have ho := fun W (hc : ChIn W g l) => order_any g c l W hc h60n
        have hlen : (ids (srt l)).length = l.length := by rw [ids, List.length_map, HSL.out]
        obtain ⟨L, hL⟩ : ∃ L, ids (srt l) = L := ⟨_, rfl⟩
        rw [hL] at hown ho hlen
        obtain ⟨pv, hpv⟩ : ∃ pv, pick (srt l) = pv := ⟨_, rfl⟩
        rw [hpv] at hp ⊢
        obtain ⟨idv, isv⟩ := pv
        simp only at hp ⊢
        have HP := Lib.hid hp
        have HO := Lib.hid ho
        have HLEN := Lib.hid hlen
        clear hp ho hlen hL hpv hR hC HPL HSL
        obtain ⟨gw, cw, rfl⟩ := own_slice hown
        have hrw := Row3.of hown
        have e1 : (idv == idv) = true := by simp
        have e2 : (isv == isv) = true := by simp
        have hbs := hw.size
        clear hown hb hbw
        go_wp2_with fail
        refine Calls.mono (P := Try.prog) HP.out ?_
        rintro e w3 ⟨rfl, hb3⟩
        have hw3 := hw.trans (hb3.mono hbs)
        have hr3 := hrw.later hb3
        have hC3 := hC1.later hb3
        clear hb3 hw hrw hC1 hbs
        go_wp2_with fail
        refine Calls.mono (P := Try.prog) (HO.out _ hC3) ?_
        rintro e w4 ⟨go, co, rfl, hown4, hb4⟩
        have hro := Row3.of hown4
        have hr4 := hr3.later hb4
        have hw4 := hw3.trans (hb4.mono hw3.size)
        clear hb4 hw3 hr3 hC3 hown4
        go_wp2_with fail
        rw [← HLEN.out]
        refine (ints_same go gw co cw L _ hro.row hr4.row (by rw [HLEN.out]; omega)).mono ?_
        rintro e w5 ⟨rfl, hb5⟩
        have hw5 := hw4.trans (hb5.mono hw4.size)
        go_wp2
        go_ret
        exact ⟨rfl, hw5⟩

end Go.Proofs.Ytafmkalepgcnkaa
