/-
  The document's answer for layer 31, Places, walked.
-/
import Derived.Test.YtafmkalepgcnkaaChoose
import Derived.Test.YtafmkalepgcnkaaBetter
import Derived.Laws.MakeOwn
namespace Go.Proofs.Ytafmkalepgcnkaa
open Go.RowKit Go.Sort

theorem Try.info4 : (Try.prog.info? 4).map (fun i => (i.zero, i.size, i.bytes)) = some (some (.bool false), 1, 1) := by kernel_rfl

/-- Which are taken, in a block of the call's own. -/
def UsedAt (w : World) (b : Nat) (U : List Bool) : Prop := w.heap[b]? = some (.cells (U.map Value.bool).toArray 4 (0, 0))
theorem UsedAt.cell {w : World} {b : Nat} {U : List Bool} (h : UsedAt w b U) (x : Nat) (u : Bool) (hx : U[x]? = some u) : w.cell? ⟨b, x, none⟩ = some (.bool u) := by
  rw [cell_of_row _ _ _ _ _ _ h]; simp [hx]
theorem UsedAt.free {w : World} {b : Nat} {U : List Bool} (h : UsedAt w b U) (x : Nat) : w.frozen? ⟨b, x, none⟩ = false := frozen_of_row _ _ _ _ _ h
theorem UsedAt.later {w w' : World} {b : Nat} {U : List Bool} (h : UsedAt w b U) (hb : Below w.heap.size w w') : UsedAt w' b U := (hb.block b (lt_block h)).trans h
theorem UsedAt.set {w : World} {b : Nat} {U : List Bool} (h : UsedAt w b U) (x : Nat) (v : Bool) : UsedAt (w.setCell ⟨b, x, none⟩ (.bool v)) b (U.set x v) := by
  unfold UsedAt
  rw [setCell_eq]
  show (w.heap.modify b (onCells fun c => c.setIfInBounds x (Value.bool v)))[b]? = _
  rw [Array.getElem?_modify, if_pos rfl, h]
  simp [onCells, List.map_set]
theorem UsedAt.past {w w' : World} {b : Nat} {U : List Bool} {B n : Nat} {v : Value} {xs : List Value} (h : UsedAt w b U) (hown : w.ownsRow B 3 1 v n xs) (hg : w.grownBy w' v.ownBlock) : UsedAt w' b U := by
  unfold UsedAt
  rw [hg.block b (lt_block h) ?_]; exact h
  rcases hown.2 with ⟨rfl, _⟩ | ⟨g', cap', cur', rfl, _, hg', _⟩
  · simp [Value.ownBlock]
  · intro e
    simp only [Value.ownBlock, Option.some.injEq] at e
    subst e
    rw [h] at hg'
    simp at hg'
theorem madeFalse (n : Nat) : madeCells #[.bool false] n = Array.replicate n (Value.bool false) := by
  apply Array.ext
  · simp [madeCells]
  · intro i h1 h2
    simp [madeCells, Nat.mod_one]

theorem belowD (w : World) (n : Nat) : Below w.heap.size w (w.drewN n) := below_drewN n (Below.refl _ _)

theorem run_make80 (n : Nat) (hn : n ≤ 1000) (w : World) : (Instr.makeSlice 80 (.int .i64 n) (.int .i64 n)).run Try.prog w = .ok (.slice (some ⟨w.heap.size, 0, none⟩) n n) (w.alloc (.cells (Array.replicate n (Value.bool false)) 4)) := by
  obtain ⟨i0, hi, hz0, hz1, hz2⟩ := info_parts Try.info4
  have h := run_make (P := Try.prog) w 80 4 i0 (.bool false) Try.underlying80 hi hz0 .i64 .i64 (n : Int) (n : Int) (by omega) (Int.le_refl _) (by rw [hz2]; omega) (by omega)
  rw [h, hz1, Int.toNat_natCast, Nat.mul_one, ← madeFalse]
  rfl

theorem own_slice {w : World} {B n : Nat} {v : Value} {xs : List Value} (h : w.ownsRow B 3 1 v n xs) : ∃ g c, v = .slice g n c := by
  rcases h.2 with ⟨rfl, rfl⟩ | ⟨g, cap, cur, rfl, _⟩
  · exact ⟨_, _, rfl⟩
  · exact ⟨_, _, rfl⟩
theorem own_apart {w : World} {B n b : Nat} {v : Value} {xs : List Value} {U : List Bool} (h : w.ownsRow B 3 1 v n xs) (hU : UsedAt w b U) : some b ≠ v.ownBlock := by
  rcases h.2 with ⟨rfl, _⟩ | ⟨g', cap', cur', rfl, _, hg', _⟩
  · simp [Value.ownBlock]
  · intro e
    simp only [Value.ownBlock, Option.some.injEq] at e
    subst e
    unfold UsedAt at hU
    rw [hU] at hg'
    simp at hg'
theorem own_set {w : World} {B n b x : Nat} {v : Value} {xs : List Value} {U : List Bool} (h : w.ownsRow B 3 1 v n xs) (hU : UsedAt w b U) (u : Value) : (w.setCell ⟨b, x, none⟩ u).ownsRow B 3 1 v n xs :=
  h.kept (row := some b) (grownBy_set (Below.refl _ _) u) (.inr fun e => own_apart h hU e.symm)

set_option maxHeartbeats 8000000 in
set_option maxRecDepth 100000 in
theorem placesRef_any (g : Option Addr) (c : Nat) (l : List Ch) (w : World) (h : ChIn w g l) (h60 : l.length ≤ 60) :
    Calls Try.prog 35 #[.slice g l.length c] w (ListPost w.heap.size (poss l) l.length w) := by
  obtain ⟨i0, hi, hz0, hz1, hz2⟩ := info_parts Try.info3
  have mixed : Try.prog.follows .mixedOrders = true := by kernel_rfl
  have hmk := run_make80 l.length (by omega)
  have h60z : (l.length : Int) ≤ 60 := by omega
  have HPL := Lib.hid (poss_length l)
  have hU0 : UsedAt (w.alloc (.cells (Array.replicate l.length (Value.bool false)) 4)) w.heap.size (used l 0) := by
    unfold UsedAt
    rw [used_zero, heap_alloc_new]; simp
  go_enter Try.func35, Try.ntmps35
  go_wp2
  clear hmk
  go_loopg [3] l.length (fun kx v wr => ∃ k : Nat, k ≤ l.length ∧ l.length - k ≤ kx ∧ wr.ownsRow w.heap.size 3 1 v k (((poss l).take k).map (Value.int .i64)) ∧ UsedAt wr w.heap.size (used l k) ∧ Below w.heap.size w wr)
  case atStart => exact ⟨0, Nat.zero_le _, by omega, World.ownsRow_nil _ _ _ _, hU0, (Below.refl _ _).alloc (Nat.le_refl _) _⟩
  case round =>
    clear hU0
    obtain ⟨k, hk, hkx, hown, hU, hb⟩ := hrel
    obtain ⟨gv, cv, rfl⟩ := own_slice hown
    obtain ⟨wo, rfl⟩ : ∃ wo : World, wo = wr := ⟨_, rfl⟩
    by_cases hlt : k < l.length
    · have hltz : (k : Int) < (l.length : Int) := by omega
      go_wp2_with fail
      go_loopw [5, 6] (fun bb t wr => ∃ (i : Nat) (b : Int), i ≤ l.length ∧ t = .int .i64 i ∧ bb = .int .i64 b ∧ Hid (Bst l k i b) ∧ wr.ownsRow w.heap.size 3 1 (.slice gv k cv) k (((poss l).take k).map (Value.int .i64)) ∧ UsedAt wr w.heap.size (used l k) ∧ Below w.heap.size w wr) (fun _ t _ => l.length - (intOf t).toNat)
      case atStart => exact ⟨0, -1, Nat.zero_le _, rfl, rfl, Bst.start l k, hown, hU, hb⟩
      case round =>
        clear hown hU hb
        obtain ⟨i, b, hil, rfl, rfl, HB, hown, hU, hb⟩ := hrel
        have hsz := hb.size
        by_cases hlt2 : i < l.length
        · have hlt2z : (i : Int) < (l.length : Int) := by omega
          obtain ⟨b0, o0, i1, p1, q1, r1, rfl, hl, hblt, d0, d1, d2, d3⟩ := (h.later hb).get hlt2
          have hpa : (pa l i).ch = ⟨i1, p1, q1, r1⟩ := by simp [pa, hl]
          have HPA := Lib.hid hpa
          have hu0 := hU.cell i _ (used_get l k i hlt2)
          clear hl hpa
          cases hu : inL ((poss l).take k) i
          · rw [hu] at hu0
            have HUn := Lib.hid hu
            clear hu
            have hcase : b = -1 ∨ ∃ m : Nat, b = m ∧ m < i := by
              rcases HB.out with ⟨h1, _⟩ | ⟨m, h1, h2, _⟩
              · exact .inl h1
              · exact .inr ⟨m, h1, h2⟩
            rcases hcase with rfl | ⟨m, rfl, hmi⟩
            · have HB2 := Lib.hid (HB.out.first HUn.out)
              clear HB HUn h d0 d1 d2 d3
              go_wp2_with fail
              go_quiet (fail)
              go_wp2
              go_roundw
              case rel => exact ⟨i + 1, (i : Int), by omega, by go_num, rfl, HB2, owns_below hown (belowD _ _), hU.later (belowD _ _), below_drewN _ hb⟩
              case measure => simp [intOf]; omega
            · obtain ⟨b1, o1, i2, p2, q2, r2, hg2, hl2, _, f0, f1, f2, f3⟩ := (h.later hb).get (show m < l.length by omega)
              simp only [Option.some.injEq, Addr.mk.injEq, and_true] at hg2
              obtain ⟨rfl, rfl⟩ := hg2
              have hpm : (pa l m).ch = ⟨i2, p2, q2, r2⟩ := by simp [pa, hl2]
              have hmz : (m : Int) < (l.length : Int) := by omega
              have hm0 : decide ((m : Int) < 0) = false := decide_eq_false (by omega)
              have c0 := fun n os => cell_grown (a := ⟨b0, o0 + i * 4, none⟩) hblt d0 n os
              have c1 := fun n os => cell_grown (a := ⟨b0, o0 + i * 4 + 1, none⟩) hblt d1 n os
              have c2 := fun n os => cell_grown (a := ⟨b0, o0 + i * 4 + 2, none⟩) hblt d2 n os
              have c3 := fun n os => cell_grown (a := ⟨b0, o0 + i * 4 + 3, none⟩) hblt d3 n os
              have e0 := fun n os => cell_grown (a := ⟨b0, o0 + m * 4, none⟩) hblt f0 n os
              have e1 := fun n os => cell_grown (a := ⟨b0, o0 + m * 4 + 1, none⟩) hblt f1 n os
              have e2 := fun n os => cell_grown (a := ⟨b0, o0 + m * 4 + 2, none⟩) hblt f2 n os
              have e3 := fun n os => cell_grown (a := ⟨b0, o0 + m * 4 + 3, none⟩) hblt f3 n os
              have v0 := fun n os => cell_grown (a := ⟨w.heap.size, i, none⟩) (lt_block hU) hu0 n os
              have hcall := fun W => refBetter_any ⟨i1, p1, q1, r1⟩ ⟨i2, p2, q2, r2⟩ W
              unfold chV at hcall
              simp only at hcall
              cases hbt : bet (pa l i).ch (pa l m).ch
              · have HB2 := Lib.hid (HB.out.keep hbt)
                rw [HPA.out, hpm] at hbt
                rw [hbt] at hcall
                have HC : Aside _ := hcall
                clear hbt hcall hpm hl2 d0 d1 d2 d3 f0 f1 f2 f3 hu0 h HB HUn
                go_wp2_with fail
                go_quiet_grown (first | (go_at_call 37; refine Calls.grown_of (HC.out _)))
                have hgr : Gro wr (grow (wr.drewN nq) osq) := ⟨nq, osq, rfl⟩
                have hU2 := hU.later hgr.below
                have hown2 := owns_below hown hgr.below
                have hb2 := hb.trans (hgr.below.mono hsz)
                clear c0 c1 c2 c3 e0 e1 e2 e3 v0 hU hown hb hgr
                generalize grow (wr.drewN nq) osq = w2 at *
                go_wp2
                go_roundw
                case rel => exact ⟨i + 1, (m : Int), by omega, by go_num, rfl, HB2, hown2, hU2, hb2⟩
                case measure => simp [intOf]; omega
              · have HB2 := Lib.hid (HB.out.take HUn.out hbt)
                rw [HPA.out, hpm] at hbt
                rw [hbt] at hcall
                have HC : Aside _ := hcall
                clear hbt hcall hpm hl2 d0 d1 d2 d3 f0 f1 f2 f3 hu0 h HB HUn
                go_wp2_with fail
                go_quiet_grown (first | (go_at_call 37; refine Calls.grown_of (HC.out _)))
                have hgr : Gro wr (grow (wr.drewN nq) osq) := ⟨nq, osq, rfl⟩
                have hU2 := hU.later hgr.below
                have hown2 := owns_below hown hgr.below
                have hb2 := hb.trans (hgr.below.mono hsz)
                clear c0 c1 c2 c3 e0 e1 e2 e3 v0 hU hown hb hgr
                generalize grow (wr.drewN nq) osq = w2 at *
                go_wp2
                go_roundw
                case rel => exact ⟨i + 1, (i : Int), by omega, by go_num, rfl, HB2, hown2, hU2, hb2⟩
                case measure => simp [intOf]; omega
          · rw [hu] at hu0
            have HB2 := Lib.hid (HB.out.skip hu)
            clear hu HB h d0 d1 d2 d3
            go_wp2_with fail
            go_quiet (fail)
            go_wp2
            go_roundw
            case rel => exact ⟨i + 1, b, by omega, by go_num, rfl, HB2, owns_below hown (belowD _ _), hU.later (belowD _ _), below_drewN _ hb⟩
            case measure => simp [intOf]; omega
        · obtain rfl : i = l.length := by omega
          obtain ⟨hp, hb0, hbn⟩ := HB.out.done hlt
          obtain ⟨m, rfl⟩ : ∃ m : Nat, b = m := ⟨b.toNat, by omega⟩
          have hpt : (poss l).take (k + 1) = (poss l).take k ++ [(m : Int)] := by rw [List.take_add_one, hp]; rfl
          have HPT := Lib.hid hpt
          have HUS := Lib.hid (used_succ l k m hp)
          have hmn : m < l.length := by omega
          have hmz : (m : Int) < (l.length : Int) := by omega
          have huc := hU.cell m _ (used_get l k m hmn)
          have huf := hU.free m
          have hU2 := hU.set m true
          have hown2 := own_set (x := m) hown hU (.bool true)
          have hb2 := hb.setCell (p := ⟨w.heap.size, m, none⟩) (Nat.le_refl _) (.bool true)
          have hsz2 := hb2.size
          clear hp hpt HB h hb hown
          have hkn : k < 60 := by omega
          go_wp2_with (at_builtin; refine wpList_append_own _ rfl _ _ 23 rfl w.heap.size 3 i0 (.int .i64 0) 1 8 Try.underlying23 hi hz0 hz1 hz2 rfl (by decide) _ _ _ rfl (hown2.alloc _) ⟨wr.heap.size, 0, none⟩ 1 1 [.int .i64 (m : Int)] rfl rfl ?k1 ?k2 ?k3 ?k4 ?k5 ?_)
          case k1 =>
            intro j u hj
            match j, hj with
            | 0, hj =>
              simp at hj; subst hj
              have hnew := cell_of_row _ _ 0 _ _ _ (heap_alloc_new (wr.setCell ⟨w.heap.size, m, none⟩ (.bool true)) (.cells #[.int .i64 (m : Int)] 3))
              rw [show (wr.setCell ⟨w.heap.size, m, none⟩ (.bool true)).heap.size = wr.heap.size by simp] at hnew
              exact hnew
          case k2 => intro u hu; simp at hu; subst hu; rfl
          case k3 => unfold maxLen; omega
          case k4 => omega
          case k5 => simp; omega
          intro v' w3 hown' hgrow _
          have hU3 := (hU2.later ((Below.refl _ _).alloc (Nat.le_refl _) (.cells #[.int .i64 (m : Int)] 3))).past (hown2.alloc _) hgrow
          have hb3 := (hb2.alloc hsz2 (.cells #[.int .i64 (m : Int)] 3)).grown hgrow (by simp; omega) (fun j hj => (hown2.lt j hj).1)
          clear hU hU2 hown2 hgrow hb2 huc huf
          go_wp2
          go_roundg (l.length - (k + 1))
          case measure => omega
          case rel => exact ⟨k + 1, by omega, by omega, by rw [HPT.out, List.map_append, List.map_take]; exact hown', by rw [HUS.out]; exact hU3, hb3⟩
    · obtain rfl : k = l.length := by omega
      have ht : (poss l).take l.length = poss l := by rw [← HPL.out, List.take_length]
      rw [ht] at hown
      clear ht
      go_wp2
      go_ret
      exact list_post hown hb

end Go.Proofs.Ytafmkalepgcnkaa
