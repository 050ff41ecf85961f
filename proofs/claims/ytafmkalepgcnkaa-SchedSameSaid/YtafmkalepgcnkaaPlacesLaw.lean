/-
  The law AddrsPlaces, walked: it returns true and leaves all that was there as it was.
-/
import Derived.Test.YtafmkalepgcnkaaPlaces
namespace Go.Proofs.Ytafmkalepgcnkaa
open Go.RowKit

theorem new_at {g0 g1 : Option Addr} {c0 c1 n0 n1 : Nat} {os rs : List Int} {w : World} (h0 : RowIn w g0 os) (h1 : RowIn w g1 rs) (e0 : os.length = n0) (e1 : rs.length = n1) (l0 : n0 ≤ 9223372036854775807) (l1 : n1 ≤ 9223372036854775807) :
    Calls Try.prog 21 #[.slice g0 n0 c0, .slice g1 n1 c1] w (NewPost (sFold os) (sFold rs) w) := by
  subst e0 e1; exact new_any g0 g1 c0 c1 os rs w h0 h1 l0 l1

/-- What Places leaves, as it is read. -/
def PlacesLeft (l : List (Int × Int)) (n : Nat) (w : World) (e : Ending) (w' : World) : Prop :=
  ∃ (g : Option Addr) (cap : Nat), e = .returned (.slice g n cap) ∧ w'.ownsRow w.heap.size 40 2 (.slice g n cap) n (pairV l) ∧ Below w.heap.size w w'
theorem places_at {b n : Nat} {O R : List Bool} {l : List (Int × Int)} (w : World) (hT : TabAt w b O R) (hl : rows (rl O 16) (rl R 16) (rl O 16).length = l) (hn : l.length = n) :
    Calls Try.prog 23 #[.pointer (some ⟨b, 0, none⟩)] w (PlacesLeft l n w) := by
  subst hl hn; exact places_any b O R w hT

theorem pair_cells {w : World} {B n cap : Nat} {g : Option Addr} {l : List (Int × Int)} (h : w.ownsRow B 40 2 (.slice g n cap) n (pairV l)) {b : Nat} (hg : g = some ⟨b, 0, none⟩) {j : Nat} {v : Value} (hv : (pairV l)[j]? = some v) : w.cell? ⟨b, j, none⟩ = some v := by
  have := h.cells (g := b) (by rw [hg]; rfl) j v hv
  rwa [Addr.add_lit, Nat.zero_add] at this
theorem pair_block {w : World} {B n cap : Nat} {g : Option Addr} {l : List (Int × Int)} (h : w.ownsRow B 40 2 (.slice g n cap) n (pairV l)) (hn : n ≠ 0) : ∃ b, g = some ⟨b, 0, none⟩ ∧ b < w.heap.size := by
  rcases h.2 with ⟨_, h0⟩ | ⟨b, cap', cur, hv, hb, hg, _⟩
  · exact absurd h0 hn
  · simp only [Value.slice.injEq] at hv
    exact ⟨b, hv.1, lt_block hg⟩

set_option maxHeartbeats 1000000 in
theorem works27 (w : World) : Calls Try.prog 20 #[] w fun e w' => e = .returned (.bool true) ∧ Below w.heap.size w w' := by
  have r0 : RowIn ((w.alloc (.cells #[.int .i64 0, .int .i64 1] 3)).alloc (.cells #[.int .i64 3] 3)) (some ⟨w.heap.size, 0, none⟩) [0, 1] := by
    refine .inr ⟨w.heap.size, 0, rfl, by simp; omega, fun j hj => ?_⟩
    have : j = 0 ∨ j = 1 := by simp at hj; omega
    rcases this with rfl | rfl
    · rw [World.cell?_alloc_past _ _ _ (by simp)]; rw [World.cell?_alloc_at _ _ _ _ rfl]; rfl
    · rw [World.cell?_alloc_past _ _ _ (by simp)]; rw [World.cell?_alloc_at _ _ _ _ rfl]; rfl
  have r1 : RowIn ((w.alloc (.cells #[.int .i64 0, .int .i64 1] 3)).alloc (.cells #[.int .i64 3] 3)) (some ⟨w.heap.size + 1, 0, none⟩) [3] := by
    refine .inr ⟨w.heap.size + 1, 0, rfl, by simp, fun j hj => ?_⟩
    obtain rfl : j = 0 := by simp at hj; omega
    rw [World.cell?_alloc_at _ _ _ _ (by simp)]; rfl
  go_enter Try.func20, Try.ntmps20
  go_wp2_with (first | (go_at_call 21; refine (new_at r0 r1 rfl rfl (by decide) (by decide)).mono ?_; rintro e w1 ⟨b, rfl, hbl, hT, hb⟩))
  have hl : rows (rl (sFold [0, 1]) 16) (rl (sFold [3]) 16) (rl (sFold [0, 1]) 16).length = [(0, 3), (1, 3)] := by decide
  have a1 : sAddC (sideOf true (sFold [0, 1]) (sFold [3])) 1 = 9 := by decide
  have a2 : sAdd (sFold [0, 1]) 1 = sFold [0, 1] := by decide
  have a3 : sDropC (sideOf false (sFold [0, 1]) (sFold [3])) 3 = 16 := by decide
  have hwb : Below w.heap.size w w1 := by
    refine Below.trans ?_ (hb.mono (by simp; omega))
    go_grown
  clear r0 r1
  generalize sFold [0, 1] = O at *
  generalize sFold [3] = R at *
  refine (places_at _ hT hl rfl).mono ?_
  rintro e w2 ⟨g, cap, rfl, hown, hb2⟩
  obtain ⟨bp, hg, hlt⟩ := pair_block hown (by decide)
  have c0 := pair_cells hown hg (j := 0) rfl
  have c1 := pair_cells hown hg (j := 1) rfl
  have c2 := pair_cells hown hg (j := 2) rfl
  have c3 := pair_cells hown hg (j := 3) rfl
  have hT2 := hT.below hb2
  have hw2 := hwb.trans (hb2.mono hwb.size)
  clear hown hT hb hb2 hl hwb
  subst hg
  go_wp2_with (first
    | (go_at_call 24; refine (back_any _ _ _).mono ?_; rintro e w3 ⟨rfl, hb3⟩; have hT3 := hT2.below hb3; have hw3 := hw2.trans (hb3.mono hw2.size))
    | (go_at_call 26; refine (add_any _ true _ _ _ _ hT3).mono ?_; rintro e w4 ⟨rfl, hT4, hg4⟩)
    | (go_at_call 27; refine (drop_any _ false _ _ _ _ hT4).mono ?_; rintro e w5 ⟨rfl, hT5, hg5⟩))
  go_ret
  have hlb : w.heap.size ≤ b := by simp at hbl; omega
  have b4 := below_row hw3 hg4 hlb hw3.size
  exact ⟨rfl, below_row b4 hg5 hlb b4.size⟩

/-- How many addresses a side has. -/
theorem rl_count (S : List Bool) (k : Nat) (hk : k ≤ S.length) : (rl S k).length = (S.take k).countP id := by
  induction k with
  | zero => rfl
  | succ k ih =>
    rw [rl_succ, List.length_append, ih (by omega), List.take_add_one, List.getElem?_eq_getElem (by omega), List.countP_append]
    cases S[k] <;> simp
theorem sAdd_ok (S : List Bool) (a : Int) (hS : S.length = 16) (h4 : (rl S 16).length ≤ 4) : (sAdd S a).length = 16 ∧ (rl (sAdd S a) 16).length ≤ 4 := by
  unfold sAdd
  by_cases hc : sAddC S a = 0
  · rw [if_pos hc]
    have h3 : (rl S 16).length < 4 := by
      unfold sAddC at hc
      split at hc
      · cases hc
      · split at hc
        · cases hc
        · split at hc
          · cases hc
          · omega
    have hl : (S.set a.toNat true).length = 16 := by rw [List.length_set]; exact hS
    refine ⟨hl, ?_⟩
    rw [rl_count _ _ (by omega), List.take_of_length_le (by omega)]
    rw [rl_count _ _ (by omega), List.take_of_length_le (by omega)] at h3
    by_cases hn : a.toNat < S.length
    · rw [List.countP_set hn]; simp; omega
    · rw [List.set_eq_of_length_le (by omega)]; omega
  · rw [if_neg hc]; exact ⟨hS, h4⟩
theorem sFold_ok (l : List Int) : (sFold l).length = 16 ∧ (rl (sFold l) 16).length ≤ 4 := by
  unfold sFold
  have : ∀ (l : List Int) (S : List Bool), S.length = 16 → (rl S 16).length ≤ 4 → (l.foldl sAdd S).length = 16 ∧ (rl (l.foldl sAdd S) 16).length ≤ 4 := by
    intro l
    induction l with
    | nil => intro S h1 h2; exact ⟨h1, h2⟩
    | cons a l ih => intro S h1 h2; obtain ⟨h3, h4⟩ := sAdd_ok S a h1 h2; exact ih _ h3 h4
  exact this l zeros rfl (by decide)

theorem rows_get (A C : List Int) (i k : Nat) (hi : i < A.length) (hk : k < C.length) : (pairV (rows A C A.length))[(i * C.length + k) * 2]? = some (.int .i64 (A[i]?.getD 0)) ∧ (pairV (rows A C A.length))[(i * C.length + k) * 2 + 1]? = some (.int .i64 (C[k]?.getD 0)) := by
  have split : ∀ j, j ≤ A.length → ∃ t, rows A C A.length = rows A C j ++ t := by
    intro j hj
    refine ⟨(A.drop j).flatMap fun a => C.map fun b => (a, b), ?_⟩
    unfold rows
    rw [List.take_length, ← List.flatMap_append, List.take_append_drop]
  obtain ⟨t, ht⟩ := split (i + 1) hi
  have h1 : rows A C (i + 1) = rows A C i ++ C.map fun b => (A[i]?.getD 0, b) := by rw [← rows_succ A C i hi]; unfold rowsIn; rw [List.take_length]
  have h2 : C.map (fun b => (A[i]?.getD 0, b)) = (C.take k).map (fun b => (A[i]?.getD 0, b)) ++ ((A[i]?.getD 0, C[k]?.getD 0) :: (C.drop (k + 1)).map fun b => (A[i]?.getD 0, b)) := by
    conv => lhs; rw [← List.take_append_drop k C, List.drop_eq_getElem_cons hk, List.map_append, List.map_cons]
    rw [List.getElem?_eq_getElem hk]; rfl
  have hlen : (pairV (rows A C i ++ (C.take k).map fun b => (A[i]?.getD 0, b))).length = (i * C.length + k) * 2 := by
    rw [pairV_length, List.length_append, rows_length, List.length_map, List.length_take, Nat.min_eq_left (by omega), Nat.min_eq_left (by omega)]
  rw [ht, h1, h2]
  have e : pairV ((rows A C i ++ ((C.take k).map (fun b => (A[i]?.getD 0, b)) ++ ((A[i]?.getD 0, C[k]?.getD 0) :: (C.drop (k + 1)).map fun b => (A[i]?.getD 0, b)))) ++ t)
      = pairV (rows A C i ++ (C.take k).map fun b => (A[i]?.getD 0, b)) ++ (.int .i64 (A[i]?.getD 0) :: .int .i64 (C[k]?.getD 0) :: pairV (((C.drop (k + 1)).map fun b => (A[i]?.getD 0, b)) ++ t)) := by
    simp only [pairV, List.flatMap_append, List.flatMap_cons, List.append_assoc, List.cons_append, List.nil_append]
  rw [e]
  constructor
  · rw [List.getElem?_append_right (by omega), hlen, Nat.sub_self]; rfl
  · rw [List.getElem?_append_right (by omega), hlen, Nat.add_sub_cancel_left]; rfl

/-- What the law's loops hold. -/
structure Pls (w0 : World) (gA gC gL : Option Addr) (cap : Nat) (A C : List Int) (wr : World) : Prop where
  ra : Row3 wr gA A
  rc : Row3 wr gC C
  own : wr.ownsRow w0.heap.size 40 2 (.slice gL (A.length * C.length) cap) (A.length * C.length) (pairV (rows A C A.length))
  below : Below w0.heap.size w0 wr
/-- Beside it one pair, in a block of its own. -/
structure Pls1 (w0 : World) (gA gC gL : Option Addr) (cap : Nat) (A C : List Int) (bp : Nat) (x y : Int) (wr : World) : Prop where
  pl : Pls w0 gA gC gL cap A C wr
  one : wr.heap[bp]? = some (.cells #[.int .i64 x, .int .i64 y] 40 (0, 0))

section
variable {w0 w1 w' : World} {gA gC gL : Option Addr} {cap bp : Nat} {A C : List Int} {x y : Int}
theorem Pls.later (h : Pls w0 gA gC gL cap A C w1) (hb : Below w1.heap.size w1 w') : Pls w0 gA gC gL cap A C w' :=
  ⟨h.ra.later hb, h.rc.later hb, owns_below h.own hb, h.below.trans (hb.mono h.below.size)⟩
theorem Pls1.later (h : Pls1 w0 gA gC gL cap A C bp x y w1) (hb : Below w1.heap.size w1 w') : Pls1 w0 gA gC gL cap A C bp x y w' :=
  ⟨h.pl.later hb, (hb.block _ (lt_block h.one)).trans h.one⟩
theorem Pls1.drewn (h : Pls1 w0 gA gC gL cap A C bp x y w1) : Pls1 w0 gA gC gL cap A C bp x y w1.drew := h.later ((Below.refl _ _).drew)
theorem Pls1.fresh (h : Pls w0 gA gC gL cap A C w1) : Pls1 w0 gA gC gL cap A C w1.heap.size x y (w1.alloc (.cells #[.int .i64 x, .int .i64 y] 40)) :=
  ⟨h.later ((Below.refl _ _).alloc (Nat.le_refl _) _), heap_alloc_new w1 _⟩
theorem Pls1.held {bA bC i k : Nat} (h : Pls1 w0 (some ⟨bA, 0, none⟩) (some ⟨bC, 0, none⟩) gL cap A C bp x y w1) (hi : i < A.length) (hk : k < C.length) (hx : A[i]?.getD 0 = x) (hy : C[k]?.getD 0 = y) :
    w1.cell? ⟨bp, 0, none⟩ = some (.int .i64 x) ∧ w1.cell? ⟨bp, 1, none⟩ = some (.int .i64 y) ∧ w1.cell? ⟨bA, i, none⟩ = some (.int .i64 x) ∧ w1.cell? ⟨bC, k, none⟩ = some (.int .i64 y) ∧ Pls1 w0 (some ⟨bA, 0, none⟩) (some ⟨bC, 0, none⟩) gL cap A C bp x y w1 := by
  obtain ⟨b1, e1, c1⟩ := h.pl.ra.get hi
  obtain ⟨b2, e2, c2⟩ := h.pl.rc.get hk
  simp only [Option.some.injEq, Addr.mk.injEq, and_true] at e1 e2
  subst e1 e2
  rw [hx] at c1
  rw [hy] at c2
  exact ⟨by rw [cell_of_row _ _ _ _ _ _ h.one]; rfl, by rw [cell_of_row _ _ _ _ _ _ h.one]; rfl, c1, c2, h⟩
theorem Pls1.keep {bA bC i k : Nat} (hi : i < A.length) (hk : k < C.length) (hx : A[i]?.getD 0 = x) (hy : C[k]?.getD 0 = y)
    (h : w1.cell? ⟨bp, 0, none⟩ = some (.int .i64 x) ∧ w1.cell? ⟨bp, 1, none⟩ = some (.int .i64 y) ∧ w1.cell? ⟨bA, i, none⟩ = some (.int .i64 x) ∧ w1.cell? ⟨bC, k, none⟩ = some (.int .i64 y) ∧ Pls1 w0 (some ⟨bA, 0, none⟩) (some ⟨bC, 0, none⟩) gL cap A C bp x y w1)
    (hb : Below w1.heap.size w1 w') : w'.cell? ⟨bp, 0, none⟩ = some (.int .i64 x) ∧ w'.cell? ⟨bp, 1, none⟩ = some (.int .i64 y) ∧ w'.cell? ⟨bA, i, none⟩ = some (.int .i64 x) ∧ w'.cell? ⟨bC, k, none⟩ = some (.int .i64 y) ∧ Pls1 w0 (some ⟨bA, 0, none⟩) (some ⟨bC, 0, none⟩) gL cap A C bp x y w' :=
  (h.2.2.2.2.later hb).held hi hk hx hy
end

end Go.Proofs.Ytafmkalepgcnkaa
