/-
  Package sched: all paths, the best one first, walked.
-/
import Derived.Test.YtafmkalepgcnkaaPlRow
namespace Go.Proofs.Ytafmkalepgcnkaa
open Go.RowKit Go.Sort

theorem Try.info79 : (Try.prog.info? 79).map (fun i => (i.zero, i.size, i.bytes)) = some (some (.agg #[.int .i64 0, .int .i64 0, .int .i64 0, .bool false, .int .i64 0]), 5, 40) := by kernel_rfl

set_option maxHeartbeats 2000000 in
/-- The sort of nothing. -/
theorem sortNil_any (w : World) : Calls Try.prog 44 #[.slice none 0 0, .func (.func 45) #[] #[]] w fun e w' => e = .returned (.tuple #[]) ∧ w = w' := by
  have h50 : ∀ W, Calls Try.prog 50 #[.slice none 0 0, .int .i64 0, .int .i64 0, .func (.func 45) #[] #[]] W fun e w' => e = .returned (.tuple #[]) ∧ W = w' := fun W => by
    go_enter Try.func50, Try.ntmps50
    go_wp2
    go_loop [8] (fun t => t = .int .i64 1) (fun _ => 0)
    case atStart => rfl
    case round =>
      subst hrel
      go_wp2
      go_end0
      exact ⟨rfl, rfl⟩
  have h48 : ∀ W, Calls Try.prog 48 #[.slice none 0 0, .int .i64 0, .func (.func 45) #[] #[]] W fun e w' => e = .returned (.tuple #[]) ∧ W = w' := fun W => by
    go_enter Try.func48, Try.ntmps48
    go_wp2
    go_loop [7, 8] (fun s t => s = .int .i64 0 ∧ t = .int .i64 20) (fun _ _ => 0)
    case atStart => exact ⟨rfl, rfl⟩
    case round =>
      obtain ⟨rfl, rfl⟩ := hrel
      go_wp2_with (go_at_call 50; refine (h50 _).mono ?_; rintro e w' ⟨rfl, rfl⟩)
      go_loop [6] (fun s => s = .int .i64 20) (fun _ => 0)
      case atStart => rfl
      case round =>
        subst hrel
        go_wp2
        go_end0
        exact ⟨rfl, rfl⟩
  go_enter Try.func44, Try.ntmps44
  go_wp2_with (go_at_call 48; refine (h48 _).mono ?_; rintro e w' ⟨rfl, rfl⟩)
  go_end0
  exact ⟨rfl, rfl⟩

/-- What all in order leaves. -/
def SortPost (l : List Ch) (w : World) (e : Ending) (w' : World) : Prop :=
  ∃ (s : List Pl) (g : Option Addr) (c : Nat), e = .returned (.slice g s.length c) ∧ Srt l s ∧ PlRow w' g s ∧ Below w.heap.size w w'

theorem pl_snoc {B n : Nat} {s : List Pl} {p : Pl} {w wr w1 : World} {v v' : Value} {o o' : Obj} (hB : B ≤ wr.heap.size) (hown : wr.ownsRow B 79 5 v n (plV s)) (hnx : Below B w wr)
    (hown' : w1.ownsRow B 79 5 v' (n + 1) (plV s ++ encP p)) (hgrow : ((wr.alloc o).alloc o').grownBy w1 v.ownBlock) :
    w1.ownsRow B 79 5 v' (n + 1) (plV (s ++ [p])) ∧ Below B w w1 := by
  refine ⟨by rw [plV_snoc]; exact hown', ((hnx.alloc hB o).alloc (by simp; omega) o').grown hgrow (by simp; omega) (fun j hj => (hown.lt j hj).1)⟩

theorem sort_all {l : List Ch} {w wr : World} {v : Value} (hl : 0 < l.length) (h60 : l.length ≤ 60) (hown : wr.ownsRow w.heap.size 79 5 v l.length (plV (st l))) (hnx : Below w.heap.size w wr) :
    ∃ g cap, v = .slice (some ⟨g, 0, none⟩) l.length cap ∧ Calls Try.prog 44 #[.slice (some ⟨g, 0, none⟩) l.length cap, .func (.func 45) #[] #[]] wr fun e w' => e = .returned (.tuple #[]) ∧ ∃ s, Hid (s.length = l.length) ∧ Hid (Srt l s) ∧ PlRow w' (some ⟨g, 0, none⟩) s ∧ Below w.heap.size w w' := by
  rcases hown.2 with ⟨_, h0⟩ | ⟨g, cap, cur, rfl, hg, hh, rest⟩
  · omega
  · refine ⟨g, cap, rfl, ?_⟩
    obtain ⟨hH, _, _⟩ := owns_holds hown
    have hlt := lt_block hh
    refine (sortStable_any g cap l.length _ wr hH hlt (by rw [List.size_toArray, st_length]) h60 (st_asc l)).mono ?_
    rintro e w' ⟨rfl, d, h1, h2, h3⟩
    obtain ⟨cur', hc⟩ := swk_block h3 hh
    have hS := srt_of rfl h1 h2
    exact ⟨rfl, d.toList, hS.length, hS, holds_row (h3.holds hlt hH h1.1) hc, hnx.trans (swk_below h3 hlt hg)⟩

set_option maxHeartbeats 4000000 in
theorem sorted_any (g : Option Addr) (c : Nat) (l : List Ch) (w : World) (h : ChIn w g l) (h60 : l.length ≤ 60) : Calls Try.prog 42 #[.slice g l.length c] w (SortPost l w) := by
  obtain ⟨i0, hi, hz0, hz1, hz2⟩ := info_parts Try.info79
  have h60z : (l.length : Int) ≤ 60 := by omega
  go_enter Try.func42, Try.ntmps42
  go_wp2
  go_loopw [3, 8] (fun v t wr => ∃ k : Nat, k ≤ l.length ∧ t = .int .i64 k ∧ wr.ownsRow w.heap.size 79 5 v k (plV ((st l).take k)) ∧ Hid (k = 0 → v = .slice none 0 0) ∧ Below w.heap.size w wr) (fun _ t _ => l.length - (intOf t).toNat)
  case atStart => exact ⟨0, Nat.zero_le _, rfl, World.ownsRow_nil _ _ _ _, (show 0 = 0 → _ from fun _ => rfl), Below.refl _ _⟩
  case round =>
    obtain ⟨k, hk, rfl, hown, HN, hnx⟩ := hrel
    have hs := hnx.size
    by_cases hlt : k < l.length
    · obtain ⟨b0, o0, i1, p1, c1, r1, rfl, hl, _, d0, d1, d2, d3⟩ := (h.later hnx).get hlt
      have hlt' : (k : Int) < (l.length : Int) := by omega
      have HS := Lib.hid (st_take l k _ hl)
      clear hl h
      have hk60 : k < 60 := by omega
      clear HN
      go_wp2_with (at_builtin; refine wpList_append_own _ rfl _ _ 76 rfl w.heap.size 79 i0 (.agg #[.int .i64 0, .int .i64 0, .int .i64 0, .bool false, .int .i64 0]) 5 40 Try.underlying76 hi hz0 hz1 hz2 rfl (by decide) _ _ _ rfl ((hown.alloc _).alloc _) ⟨wr.heap.size + 1, 0, none⟩ 1 1 [.int .i64 i1, .int .i64 p1, .int .i64 c1, .bool r1, .int .i64 (k : Int)] rfl rfl ?c1 ?c2 ?c3 ?c4 ?c5 ?_)
      case c1 =>
        intro q u hq
        match q, hq with
        | 0, hq => simp at hq; subst hq; simp [Addr.add]
        | 1, hq => simp at hq; subst hq; simp [Addr.add]
        | 2, hq => simp at hq; subst hq; simp [Addr.add]
        | 3, hq => simp at hq; subst hq; simp [Addr.add]
        | 4, hq => simp at hq; subst hq; simp [Addr.add]
      case c2 => intro u hu; simp at hu; rcases hu with rfl | rfl | rfl | rfl | rfl <;> rfl
      case c3 => unfold maxLen; omega
      case c4 => omega
      case c5 => simp; omega
      intro v' w3 hown3 hgrow _
      have hown4 : w3.ownsRow w.heap.size 79 5 v' (k + 1) (plV ((st l).take k) ++ encP ⟨⟨i1, p1, c1, r1⟩, (k : Int)⟩) := hown3
      have P := pl_snoc hs hown hnx hown4 hgrow
      clear hown3 hown4 hgrow hown hnx d0 d1 d2 d3
      go_wp2
      go_roundw
      case rel => exact ⟨k + 1, by omega, by go_num, by rw [HS.out]; exact P.1, (show k + 1 = 0 → _ from fun h => by omega), P.2⟩
      case measure => simp [intOf]; omega
    · obtain rfl : k = l.length := by omega
      have hkk : (st l).take l.length = st l := by rw [← st_length l, List.take_length]
      rw [hkk] at hown
      by_cases h0 : l.length = 0
      · have HS : Hid (Srt l []) := by
          have : l = [] := List.length_eq_zero_iff.1 h0
          subst this
          exact ⟨List.Perm.refl _, List.Pairwise.nil⟩
        have hv := HN.out h0
        subst hv
        clear hown hkk h hlt hk HN
        go_wp2_with fail
        rw [h0]
        refine (sortNil_any _).mono ?_
        rintro e w' ⟨rfl, rfl⟩
        go_wp2
        go_ret
        exact ⟨[], none, 0, rfl, HS.out, .inl rfl, hnx⟩
      · obtain ⟨gs, cap, rfl, hc⟩ := sort_all (by omega) h60 hown hnx
        clear hown hnx hkk h hs hlt hk HN
        go_wp2_with fail
        refine hc.mono ?_
        rintro e w' ⟨rfl, s, H1, H2, h3, h4⟩
        go_wp2
        go_ret
        exact ⟨s, _, _, by rw [H1.out]; rfl, H2.out, h3, h4⟩

end Go.Proofs.Ytafmkalepgcnkaa
