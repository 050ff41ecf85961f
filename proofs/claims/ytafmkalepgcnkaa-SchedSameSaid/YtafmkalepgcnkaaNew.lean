/-
  Package addrs, the methods whole, and New.
-/
import Derived.Test.YtafmkalepgcnkaaTable
namespace Go.Proofs.Ytafmkalepgcnkaa
open Go.RowKit

/-- What adding an address to a side answers, and leaves. -/
def sAddC (S : List Bool) (a : Int) : Int := if a < 0 ∨ 16 ≤ a then 3 else if S[a.toNat]?.getD false = true then 9 else if 4 ≤ (rl S 16).length then 6 else 0
def sAdd (S : List Bool) (a : Int) : List Bool := if sAddC S a = 0 then S.set a.toNat true else S
/-- What dropping one answers, and leaves. -/
def sDropC (S : List Bool) (a : Int) : Int := if a < 0 ∨ 16 ≤ a then 3 else if S[a.toNat]?.getD false = true then (if (rl S 16).length = 1 then 16 else 0) else 8
def sDrop (S : List Bool) (a : Int) : List Bool := if sDropC S a = 0 then S.set a.toNat false else S
def sHas (S : List Bool) (a : Int) : Bool := if a < 0 ∨ 16 ≤ a then false else S[a.toNat]?.getD false

theorem add_any (b : Nat) (own : Bool) (a : Int) (O R : List Bool) (w : World) (hT : TabAt w b O R) :
    Calls Try.prog 26 #[.pointer (some ⟨b, 0, none⟩), .bool own, .int .i64 a] w (TabPost b (sAddC (sideOf own O R) a) (if own then sAdd O a else O) (if own then R else sAdd R a) w) := by
  have same : ∀ c, sAddC (sideOf own O R) a = c → c ≠ 0 → (if own then sAdd O a else O) = O ∧ (if own then R else sAdd R a) = R := by
    intro c hc h0
    cases own
    · refine ⟨rfl, ?_⟩; show sAdd R a = R; unfold sAdd; rw [if_neg]; intro h; exact h0 (hc.symm.trans h)
    · refine ⟨?_, rfl⟩; show sAdd O a = O; unfold sAdd; rw [if_neg]; intro h; exact h0 (hc.symm.trans h)
  by_cases ha : a < 0 ∨ 16 ≤ a
  · have hc : sAddC (sideOf own O R) a = 3 := by unfold sAddC; rw [if_pos ha]
    obtain ⟨e1, e2⟩ := same 3 hc (by decide)
    rw [hc, e1, e2]
    exact (add_out b own a ha w).mono fun e w' ⟨he, hw⟩ => ⟨he, hw ▸ hT, hw ▸ grownBy_refl _ _⟩
  · obtain ⟨n, rfl⟩ : ∃ n : Nat, a = n := ⟨a.toNat, by omega⟩
    have hn : n < 16 := by omega
    cases hs : (sideOf own O R)[n]?.getD false
    · by_cases h4 : 4 ≤ (rl (sideOf own O R) 16).length
      · have hc : sAddC (sideOf own O R) n = 6 := by unfold sAddC; rw [if_neg ha, Int.toNat_natCast, hs, if_neg (by decide), if_pos h4]
        obtain ⟨e1, e2⟩ := same 6 hc (by decide)
        rw [hc, e1, e2]
        exact (add_full b n own O R hn w hT hs h4).mono fun e w' ⟨he, hw⟩ => ⟨he, hT.below hw, grownBy_of_below hw _⟩
      · have hc : sAddC (sideOf own O R) n = 0 := by unfold sAddC; rw [if_neg ha, Int.toNat_natCast, hs, if_neg (by decide), if_neg h4]
        have e1 : (if own then sAdd O n else O) = setO own O n true := by
          cases own
          · rfl
          · show sAdd O n = O.set n true; unfold sAdd; rw [if_pos (show sAddC O n = 0 from hc), Int.toNat_natCast]
        have e2 : (if own then R else sAdd R n) = setR own R n true := by
          cases own
          · show sAdd R n = R.set n true; unfold sAdd; rw [if_pos (show sAddC R n = 0 from hc), Int.toNat_natCast]
          · rfl
        rw [hc, e1, e2]
        exact add_ok b n own O R hn w hT hs (by omega)
    · have hc : sAddC (sideOf own O R) n = 9 := by unfold sAddC; rw [if_neg ha, Int.toNat_natCast, if_pos hs]
      obtain ⟨e1, e2⟩ := same 9 hc (by decide)
      rw [hc, e1, e2]
      exact (add_twice b n own O R hn w hT hs).mono fun e w' ⟨he, hw⟩ => ⟨he, hw ▸ hT, hw ▸ grownBy_refl _ _⟩

theorem drop_any (b : Nat) (own : Bool) (a : Int) (O R : List Bool) (w : World) (hT : TabAt w b O R) :
    Calls Try.prog 27 #[.pointer (some ⟨b, 0, none⟩), .bool own, .int .i64 a] w (TabPost b (sDropC (sideOf own O R) a) (if own then sDrop O a else O) (if own then R else sDrop R a) w) := by
  have same : ∀ c, sDropC (sideOf own O R) a = c → c ≠ 0 → (if own then sDrop O a else O) = O ∧ (if own then R else sDrop R a) = R := by
    intro c hc h0
    cases own
    · refine ⟨rfl, ?_⟩; show sDrop R a = R; unfold sDrop; rw [if_neg]; intro h; exact h0 (hc.symm.trans h)
    · refine ⟨?_, rfl⟩; show sDrop O a = O; unfold sDrop; rw [if_neg]; intro h; exact h0 (hc.symm.trans h)
  by_cases ha : a < 0 ∨ 16 ≤ a
  · have hc : sDropC (sideOf own O R) a = 3 := by unfold sDropC; rw [if_pos ha]
    obtain ⟨e1, e2⟩ := same 3 hc (by decide)
    rw [hc, e1, e2]
    exact (drop_out b own a ha w).mono fun e w' ⟨he, hw⟩ => ⟨he, hw ▸ hT, hw ▸ grownBy_refl _ _⟩
  · obtain ⟨n, rfl⟩ : ∃ n : Nat, a = n := ⟨a.toNat, by omega⟩
    have hn : n < 16 := by omega
    cases hs : (sideOf own O R)[n]?.getD false
    · have hc : sDropC (sideOf own O R) n = 8 := by unfold sDropC; rw [if_neg ha, Int.toNat_natCast, hs, if_neg (by decide)]
      obtain ⟨e1, e2⟩ := same 8 hc (by decide)
      rw [hc, e1, e2]
      exact (drop_none b n own O R hn w hT hs).mono fun e w' ⟨he, hw⟩ => ⟨he, hw ▸ hT, hw ▸ grownBy_refl _ _⟩
    · by_cases h4 : (rl (sideOf own O R) 16).length = 1
      · have hc : sDropC (sideOf own O R) n = 16 := by unfold sDropC; rw [if_neg ha, Int.toNat_natCast, if_pos hs, if_pos h4]
        obtain ⟨e1, e2⟩ := same 16 hc (by decide)
        rw [hc, e1, e2]
        exact (drop_last b n own O R hn w hT hs h4).mono fun e w' ⟨he, hw⟩ => ⟨he, hT.below hw, grownBy_of_below hw _⟩
      · have hc : sDropC (sideOf own O R) n = 0 := by unfold sDropC; rw [if_neg ha, Int.toNat_natCast, if_pos hs, if_neg h4]
        have e1 : (if own then sDrop O n else O) = setO own O n false := by
          cases own
          · rfl
          · show sDrop O n = O.set n false; unfold sDrop; rw [if_pos (show sDropC O n = 0 from hc), Int.toNat_natCast]
        have e2 : (if own then R else sDrop R n) = setR own R n false := by
          cases own
          · show sDrop R n = R.set n false; unfold sDrop; rw [if_pos (show sDropC R n = 0 from hc), Int.toNat_natCast]
          · rfl
        rw [hc, e1, e2]
        exact drop_ok b n own O R hn w hT hs h4

theorem has_any (b : Nat) (own : Bool) (a : Int) (O R : List Bool) (w : World) (hT : TabAt w b O R) :
    Calls Try.prog 28 #[.pointer (some ⟨b, 0, none⟩), .bool own, .int .i64 a] w fun e w' => e = .returned (.bool (sHas (sideOf own O R) a)) ∧ w = w' := by
  by_cases ha : a < 0 ∨ 16 ≤ a
  · have hc : sHas (sideOf own O R) a = false := by unfold sHas; rw [if_pos ha]
    rw [hc]; exact has_out b own a ha w
  · obtain ⟨n, rfl⟩ : ∃ n : Nat, a = n := ⟨a.toNat, by omega⟩
    have hc : sHas (sideOf own O R) n = (sideOf own O R)[n]?.getD false := by unfold sHas; rw [if_neg ha, Int.toNat_natCast]
    rw [hc]; exact has_in b n own O R (by omega) w hT

/-- A slice's elements can be read, wherever it begins. -/
def RowIn (w : World) (g : Option Addr) (xs : List Int) : Prop :=
  xs = [] ∨ ∃ b off, g = some ⟨b, off, none⟩ ∧ b < w.heap.size ∧ ∀ j, j < xs.length → w.cell? ⟨b, off + j, none⟩ = some (.int .i64 (xs[j]?.getD 0))

theorem RowIn.later {w w' : World} {g : Option Addr} {xs : List Int} (h : RowIn w g xs) (hb : Below w.heap.size w w') : RowIn w' g xs := by
  rcases h with h | ⟨b, off, rfl, hl, hc⟩
  · exact .inl h
  · exact .inr ⟨b, off, rfl, Nat.lt_of_lt_of_le hl hb.size, fun j hj => (hb.cell (p := ⟨b, off + j, none⟩) hl).trans (hc j hj)⟩
theorem RowIn.of {w : World} {g : Option Addr} {xs : List Int} (h : RowAt w g xs) : RowIn w g xs := by
  rcases h with h | ⟨b, rfl, hl, hc⟩
  · exact .inl h
  · exact .inr ⟨b, 0, rfl, hl, fun j hj => by rw [Nat.zero_add]; exact hc j hj⟩
theorem RowIn.get {w : World} {g : Option Addr} {xs : List Int} (h : RowIn w g xs) {k : Nat} (hk : k < xs.length) : ∃ b off, g = some ⟨b, off, none⟩ ∧ w.cell? ⟨b, off + k, none⟩ = some (.int .i64 (xs[k]?.getD 0)) := by
  rcases h with h | ⟨b, off, hg, hl, hc⟩
  · rw [h] at hk; exact absurd hk (by simp)
  · exact ⟨b, off, hg, hc k hk⟩

/-- No address. -/
def zeros : List Bool := List.replicate 16 false
/-- The addresses of a list, added one by one. -/
def sFold (l : List Int) : List Bool := l.foldl sAdd zeros
theorem sFold_snoc (l : List Int) (k : Nat) (hk : k < l.length) : sFold (l.take (k + 1)) = sAdd (sFold (l.take k)) (l[k]?.getD 0) := by
  unfold sFold; rw [List.take_add_one, List.getElem?_eq_getElem hk, List.foldl_append]; rfl

theorem below_row {B b : Nat} {w wr w' : World} (h : Below B w wr) (hg : wr.grownBy w' (some b)) (hB : B ≤ b) (hBw : B ≤ wr.heap.size) : Below B w w' :=
  h.grown hg hBw (fun k hk => by simp only [Option.some.injEq] at hk; omega)
theorem RowIn.grown {w w' : World} {g : Option Addr} {xs : List Int} {b B : Nat} (h : RowIn w g xs) (hg : w.grownBy w' (some b)) (hlt : ∀ a, g = some a → a.block < B) (hB : B ≤ b) : RowIn w' g xs := by
  rcases h with h | ⟨b', off, rfl, hl, hc⟩
  · exact .inl h
  · have h1 := hlt _ rfl
    have hne : some b' ≠ some b := fun e => by simp only [Option.some.injEq] at e; have : b' < B := h1; omega
    exact .inr ⟨b', off, rfl, Nat.lt_of_lt_of_le hl hg.size, fun j hj => hg.cell (a := ⟨b', off + j, none⟩) (hc j hj) hne⟩

/-- What New leaves. -/
def NewPost (O R : List Bool) (w : World) (e : Ending) (w' : World) : Prop := ∃ b, e = .returned (.pointer (some ⟨b, 0, none⟩)) ∧ w.heap.size ≤ b ∧ TabAt w' b O R ∧ Below w.heap.size w w'

set_option maxHeartbeats 1000000 in
theorem new_any (g0 g1 : Option Addr) (c0 c1 : Nat) (os rs : List Int) (w : World) (h0 : RowIn w g0 os) (h1 : RowIn w g1 rs) (l0 : os.length ≤ 9223372036854775807) (l1 : rs.length ≤ 9223372036854775807) :
    Calls Try.prog 21 #[.slice g0 os.length c0, .slice g1 rs.length c1] w (NewPost (sFold os) (sFold rs) w) := by
  go_enter Try.func21, Try.ntmps21
  go_wp2_with fail
  have hT : TabAt (w.alloc (.cells (sideV (zeros ++ zeros)) 71)) w.heap.size zeros zeros := ⟨heap_alloc_new w _, rfl, rfl⟩
  go_loopw [14] (fun t wr => ∃ k : Nat, k ≤ os.length ∧ t = .int .i64 k ∧ TabAt wr w.heap.size (sFold (os.take k)) zeros ∧ Below w.heap.size w wr) (fun t _ => os.length - (intOf t).toNat)
  case atStart => exact ⟨0, Nat.zero_le _, rfl, hT, (Below.refl _ _).alloc (Nat.le_refl _) _⟩
  case round =>
    clear hT
    obtain ⟨k, hk, rfl, hT, hb⟩ := hrel
    have hs := hb.size
    by_cases hlt : k < os.length
    · obtain ⟨b, off, hg, hc⟩ := (h0.later hb).get hlt
      have hlt' : (k : Int) < (os.length : Int) := by omega
      have hF := Lib.hid (sFold_snoc os k hlt)
      generalize os[k]?.getD 0 = a at *
      subst hg
      clear h0 h1
      go_wp2_with (go_at_call 26; refine (add_any _ true _ _ _ _ hT).mono ?_; rintro e w1 ⟨rfl, hT1, hg1⟩)
      go_roundw
      case rel => exact ⟨k + 1, by omega, by go_num, by rw [hF.out]; exact hT1, below_row hb hg1 (Nat.le_refl _) hs⟩
      case measure => simp [intOf]; omega
    · obtain rfl : k = os.length := by omega
      rw [List.take_length] at hT
      go_wp2_with fail
      go_loopw [24] (fun t wr => ∃ k : Nat, k ≤ rs.length ∧ t = .int .i64 k ∧ TabAt wr w.heap.size (sFold os) (sFold (rs.take k)) ∧ Below w.heap.size w wr) (fun t _ => rs.length - (intOf t).toNat)
      case atStart => exact ⟨0, Nat.zero_le _, rfl, hT, hb⟩
      case round =>
        clear hT hb hs
        obtain ⟨k, hk', rfl, hT, hb⟩ := hrel
        have hs := hb.size
        by_cases hlt2 : k < rs.length
        · obtain ⟨b, off, hg, hc⟩ := (h1.later hb).get hlt2
          have hlt' : (k : Int) < (rs.length : Int) := by omega
          have hF := Lib.hid (sFold_snoc rs k hlt2)
          generalize rs[k]?.getD 0 = a at *
          subst hg
          clear h0 h1
          go_wp2_with (go_at_call 26; refine (add_any _ false _ _ _ _ hT).mono ?_; rintro e w1 ⟨rfl, hT1, hg1⟩)
          go_roundw
          case rel => exact ⟨k + 1, by omega, by go_num, by rw [hF.out]; exact hT1, below_row hb hg1 (Nat.le_refl _) hs⟩
          case measure => simp [intOf]; omega
        · obtain rfl : k = rs.length := by omega
          rw [List.take_length] at hT
          go_wp2_with fail
          go_ret
          exact ⟨_, rfl, Nat.le_refl _, hT, hb⟩

end Go.Proofs.Ytafmkalepgcnkaa
