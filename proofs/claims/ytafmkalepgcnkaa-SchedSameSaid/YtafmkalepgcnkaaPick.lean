/-
  Package sched: Pick, Order, Better, walked; the document's own Better.
-/
import Derived.Test.YtafmkalepgcnkaaSorted
namespace Go.Proofs.Ytafmkalepgcnkaa
open Go.RowKit Go.Sort

/-- All paths of l, the best one first. -/
def srt (l : List Ch) : List Pl := (insertionSort lt2 (st l).toArray 0 l.length).toList
theorem srt_ok (l : List Ch) : Srt l (srt l) := by
  have h := insertionSort_holds lt2_swo (st l).toArray 0 l.length (Nat.zero_le _) (by rw [List.size_toArray, st_length]; exact Nat.le_refl _)
  exact srt_of rfl h.1 h.2
theorem srt_eq {l : List Ch} {s : List Pl} (h : Srt l s) : s = srt l := h.uniq (srt_ok l)
theorem srt_length (l : List Ch) : (srt l).length = l.length := (srt_ok l).length

set_option maxHeartbeats 2000000 in
theorem pick_any (g : Option Addr) (c : Nat) (l : List Ch) (w : World) (h : ChIn w g l) (h60 : l.length ≤ 60) :
    Calls Try.prog 33 #[.slice g l.length c] w fun e w' => e = .returned (.tuple #[.int .i64 (pick (srt l)).1, .bool (pick (srt l)).2]) ∧ Below w.heap.size w w' := by
  have hsl := srt_length l
  have h60z : ((srt l).length : Int) ≤ 60 := by omega
  have hS := sorted_any g c l w h h60
  have HS : Aside _ := hS
  have HU : Hid (∀ s, Srt l s → s = srt l) := Lib.hid fun s hs => srt_eq hs
  clear hS h hsl h60
  generalize srt l = s at *
  go_enter Try.func33, Try.ntmps33
  go_wp2_with fail
  refine Calls.mono (P := Try.prog) HS.out ?_
  rintro e w1 ⟨s', g', c', rfl, hs, hr, hb⟩
  obtain rfl : s = s' := (HU.out s' hs).symm
  clear hs HS HU
  go_wp2
  go_loopw [9] (fun t wr => ∃ k : Nat, k ≤ s.length ∧ t = .int .i64 k ∧ Hid (∀ i p, i < k → s[i]? = some p → p.ch.room = false) ∧ PlRow wr g' s ∧ Below w.heap.size w wr) (fun t _ => s.length - (intOf t).toNat)
  case atStart => exact ⟨0, Nat.zero_le _, rfl, (show ∀ i p, i < 0 → _ from fun i p hi => by omega), hr, hb⟩
  case round =>
    clear hr hb
    obtain ⟨k, hk, rfl, HN, hr, hb⟩ := hrel
    have hsz := hb.size
    by_cases hlt : k < s.length
    · obtain ⟨b, i1, p1, q1, r1, a1, rfl, hs, _, d0, d1, d2, d3, d4⟩ := hr.get hlt
      have hlt' : (k : Int) < (s.length : Int) := by omega
      have HG := Lib.hid hs
      have hr2 := hr.later ((Below.refl _ _).alloc (Nat.le_refl _) (.cells #[.int .i64 i1, .int .i64 p1, .int .i64 q1, .bool r1, .int .i64 a1] 79))
      clear hs hr
      cases r1
      · have HN2 : Hid (∀ i p, i < k + 1 → s[i]? = some p → p.ch.room = false) := Lib.hid (fun i p hi hp => by
          by_cases e : i = k
          · subst e; rw [HG.out] at hp; cases hp; rfl
          · exact HN.out i p (by omega) hp)
        clear HN
        go_wp2
        go_roundw
        case rel => exact ⟨k + 1, by omega, by go_num, HN2, hr2, hb.alloc hsz _⟩
        case measure => simp [intOf]; omega
      · have HP := Lib.hid (pick_hit s k _ HN.out HG.out rfl)
        clear HN
        go_wp2
        go_ret2
        exact ⟨by rw [HP.out]; rfl, hb.alloc hsz _⟩
    · obtain rfl : k = s.length := by omega
      have HP := Lib.hid (pick_all s HN.out)
      go_wp2
      go_ret2
      exact ⟨by rw [HP.out]; rfl, hb⟩

theorem ids_take (s : List Pl) (k : Nat) (p : Pl) (h : s[k]? = some p) : ids (s.take (k + 1)) = ids (s.take k) ++ [p.ch.id] := by
  rw [List.take_add_one, h]; simp [ids]

set_option maxHeartbeats 2000000 in
theorem order_any (g : Option Addr) (c : Nat) (l : List Ch) (w : World) (h : ChIn w g l) (h60 : l.length ≤ 60) :
    Calls Try.prog 34 #[.slice g l.length c] w (ListPost w.heap.size (ids (srt l)) l.length w) := by
  obtain ⟨i0, hi, hz0, hz1, hz2⟩ := info_parts Try.info3
  have hsl := srt_length l
  have h60n : (srt l).length ≤ 60 := by omega
  have h60z : ((srt l).length : Int) ≤ 60 := by omega
  have hS := sorted_any g c l w h h60
  have HS : Aside _ := hS
  have HL := Lib.hid hsl
  have HU : Hid (∀ s, Srt l s → s = srt l) := Lib.hid fun s hs => srt_eq hs
  clear hS h hsl h60
  generalize srt l = s at *
  go_enter Try.func34, Try.ntmps34
  go_wp2_with fail
  refine Calls.mono (P := Try.prog) HS.out ?_
  rintro e w1 ⟨s', g', c', rfl, hs, hr, hb⟩
  obtain rfl : s = s' := (HU.out s' hs).symm
  clear hs HS HU
  go_wp2
  go_loopw [3, 9] (fun v t wr => ∃ k : Nat, k ≤ s.length ∧ t = .int .i64 k ∧ wr.ownsRow w.heap.size 3 1 v k ((ids (s.take k)).map (Value.int .i64)) ∧ PlRow wr g' s ∧ Below w.heap.size w wr) (fun _ t _ => s.length - (intOf t).toNat)
  case atStart => exact ⟨0, Nat.zero_le _, rfl, World.ownsRow_nil _ _ _ _, hr, hb⟩
  case round =>
    clear hr hb
    obtain ⟨k, hk, rfl, hown, hr, hb⟩ := hrel
    have hsz := hb.size
    by_cases hlt : k < s.length
    · obtain ⟨b, i1, p1, q1, r1, a1, rfl, hs, _, d0, d1, d2, d3, d4⟩ := hr.get hlt
      have hlt' : (k : Int) < (s.length : Int) := by omega
      have HG := Lib.hid (ids_take s k _ hs)
      clear hs
      have hA1 := (Below.refl wr.heap.size wr).alloc (Nat.le_refl _) (.cells #[.int .i64 i1, .int .i64 p1, .int .i64 q1, .bool r1, .int .i64 a1] 79)
      have hA2 := hA1.alloc (by simp) (.cells #[.int .i64 i1] 3)
      have hr2 := hr.later hA2
      clear hA1 hA2
      go_wp2_with (at_builtin; refine wpList_append_own _ rfl _ _ 23 rfl w.heap.size 3 i0 (.int .i64 0) 1 8 Try.underlying23 hi hz0 hz1 hz2 rfl (by decide) _ _ _ rfl ((hown.alloc _).alloc _) ⟨wr.heap.size + 1, 0, none⟩ 1 1 [.int .i64 i1] rfl rfl ?c1 ?c2 ?c3 ?c4 ?c5 ?_)
      case c2 => rfl
      case c3 => unfold maxLen; omega
      case c4 => omega
      case c5 => omega
      intro v' w3 hown' hgrow _
      have hr3 := hr2.past ((hown.alloc _).alloc _) hgrow
      have hb3 : Below w.heap.size w w3 := ((hb.alloc hsz _).alloc (by simp; omega) _).grown hgrow (by simp; omega) (fun j hj => (hown.lt j hj).1)
      clear hown hgrow hr hr2 hb d0 d1 d2 d3 d4
      go_wp2
      go_roundw
      case rel => exact ⟨k + 1, by omega, by go_num, by rw [HG.out, List.map_append]; exact hown', hr3, hb3⟩
      case measure => simp [intOf]; omega
    · obtain rfl : k = s.length := by omega
      rw [List.take_length] at hown
      go_wp2
      go_ret
      have h' := list_post hown hb
      rw [HL.out] at h'
      exact h'

end Go.Proofs.Ytafmkalepgcnkaa
