/-
  Layer 31, the plain law: paths of unlike numbers told in another order are in the same order. And their row in memory.
-/
import Derived.Test.YtafmkalepgcnkaaOrders
namespace Go.Proofs.Ytafmkalepgcnkaa
open Go.RowKit Go.Sort

/-- Told from another one on, the first ones last, backwards. -/
def turned (l : List Ch) (n : Nat) : List Ch := l.drop n ++ (l.take n).reverse
theorem turned_length (l : List Ch) (n : Nat) : (turned l n).length = l.length := by
  unfold turned; rw [List.length_append, List.length_drop, List.length_reverse, List.length_take]; omega
theorem turned_perm (l : List Ch) (n : Nat) : (turned l n).Perm l := by
  unfold turned
  have h : (l.drop n ++ (l.take n).reverse).Perm (l.drop n ++ l.take n) := List.Perm.append_left _ (List.reverse_perm _)
  exact (h.trans List.perm_append_comm).trans (by rw [List.take_append_drop])
theorem turned_low (l : List Ch) (n t : Nat) (h : t < l.length - n) : (turned l n)[t]? = l[n + t]? := by
  unfold turned
  rw [List.getElem?_append_left (by rw [List.length_drop]; exact h), List.getElem?_drop]
theorem turned_high (l : List Ch) (n j : Nat) (hn : n ≤ l.length) (h : j < n) : (turned l n)[l.length - n + j]? = l[n - 1 - j]? := by
  unfold turned
  rw [List.getElem?_append_right (by rw [List.length_drop]; omega), List.length_drop, show l.length - n + j - (l.length - n) = j by omega, List.getElem?_reverse (by rw [List.length_take]; omega), List.length_take, show min n l.length - 1 - j = n - 1 - j by omega, List.getElem?_take, if_pos (by omega)]

/-- Unlike numbers. -/
def Unlike (l : List Ch) : Prop := l.Pairwise fun x y => x.id ≠ y.id
theorem unlike_perm {l m : List Ch} (h : l.Perm m) (hu : Unlike l) : Unlike m := h.pairwise hu (fun hxy => Ne.symm hxy)
theorem st_map (l : List Ch) : (st l).map (·.ch) = l := by
  apply List.ext_getElem?
  intro k
  rw [List.getElem?_map, st_get]
  cases l[k]? <;> rfl
theorem perm_bet_eq : ∀ {s t : List Ch}, s.Perm t → s.Pairwise (fun x y => bet x y = true) → t.Pairwise (fun x y => bet x y = true) → s = t
  | [], t, h, _, _ => (List.nil_perm.1 h).symm
  | x :: s, [], h, _, _ => absurd (List.perm_nil.1 h) (by simp)
  | x :: s, y :: t, h, hs, ht => by
    rw [List.pairwise_cons] at hs ht
    have e : x = y := by
      rcases List.mem_cons.1 (h.mem_iff.1 (List.mem_cons_self (a := x) (l := s))) with e | hx
      · exact e
      · rcases List.mem_cons.1 (h.mem_iff.2 (List.mem_cons_self (a := y) (l := t))) with e | hy
        · exact e.symm
        · have h1 := ht.1 x hx
          have h2 := hs.1 y hy
          rw [bet_iff] at h1 h2
          omega
    subst e
    rw [perm_bet_eq (List.Perm.cons_inv h) hs.2 ht.2]
theorem srt_chs (l : List Ch) (hu : Unlike l) : ((srt l).map (·.ch)).Perm l ∧ ((srt l).map (·.ch)).Pairwise fun x y => bet x y = true := by
  have hp : ((srt l).map (·.ch)).Perm l := by
    have := (srt_ok l).perm.map (·.ch)
    rwa [st_map] at this
  refine ⟨hp, ?_⟩
  have hu2 : Unlike ((srt l).map (·.ch)) := unlike_perm hp.symm hu
  unfold Unlike at hu2
  rw [List.pairwise_map] at hu2 ⊢
  have hb := List.Pairwise.and (srt_ok l).sorted hu2
  refine hb.imp (fun {x y} hxy => ?_)
  obtain ⟨h1, h2⟩ := hxy
  rw [lt2_iff] at h1
  rw [bet_iff]
  omega
theorem ids_chs (s : List Pl) : ids s = (s.map (·.ch)).map (·.id) := by unfold ids; rw [List.map_map]; rfl
def pickC : List Ch → Int × Bool
  | [] => (0, false)
  | c :: s => if c.room then (c.id, true) else pickC s
theorem pick_chs : ∀ s : List Pl, pick s = pickC (s.map (·.ch))
  | [] => rfl
  | p :: s => by rw [List.map_cons, pick, pickC, pick_chs s]
/-- In whatever order: the same order, and the same one is picked. -/
theorem turned_same (l : List Ch) (n : Nat) (hu : Unlike l) : ids (srt (turned l n)) = ids (srt l) ∧ pick (srt (turned l n)) = pick (srt l) := by
  have h1 := srt_chs l hu
  have h2 := srt_chs (turned l n) (unlike_perm (turned_perm l n).symm hu)
  have e := perm_bet_eq ((h2.1.trans (turned_perm l n)).trans h1.1.symm) h2.2 h1.2
  rw [ids_chs, ids_chs, pick_chs, pick_chs, e]
  exact ⟨rfl, rfl⟩

/-- Paths, as cells. -/
def chsV (l : List Ch) : List Value := l.flatMap fun c => [.int .i64 c.id, .int .i64 c.prio, .int .i64 c.cost, .bool c.room]
theorem chsV_snoc (l : List Ch) (c : Ch) : chsV (l ++ [c]) = chsV l ++ [.int .i64 c.id, .int .i64 c.prio, .int .i64 c.cost, .bool c.room] := by simp [chsV]
theorem chsV_length (l : List Ch) : (chsV l).length = l.length * 4 := by
  induction l with
  | nil => rfl
  | cons c l ih => simp only [chsV, List.flatMap_cons, List.length_append, List.length_cons, List.length_nil] at ih ⊢; omega
theorem chsV_get : ∀ (l : List Ch) (i : Nat) (c : Ch), l[i]? = some c → (chsV l)[i * 4]? = some (.int .i64 c.id) ∧ (chsV l)[i * 4 + 1]? = some (.int .i64 c.prio) ∧ (chsV l)[i * 4 + 2]? = some (.int .i64 c.cost) ∧ (chsV l)[i * 4 + 3]? = some (.bool c.room)
  | [], i, c, h => by simp at h
  | d :: l, 0, c, h => by
    simp only [List.getElem?_cons_zero, Option.some.injEq] at h
    subst h
    simp [chsV]
  | d :: l, i + 1, c, h => by
    have ih := chsV_get l i c (by simpa using h)
    have k : ∀ q, (chsV (d :: l))[(i + 1) * 4 + q]? = (chsV l)[i * 4 + q]? := fun q => by
      rw [chsV, List.flatMap_cons, List.getElem?_append_right (by simp only [List.length_cons, List.length_nil]; omega)]
      simp only [List.length_cons, List.length_nil]
      rw [show (i + 1) * 4 + q - (0 + 1 + 1 + 1 + 1) = i * 4 + q by omega]; rfl
    exact ⟨(k 0).trans ih.1, (k 1).trans ih.2.1, (k 2).trans ih.2.2.1, (k 3).trans ih.2.2.2⟩
theorem owns_chs {w : World} {B n cap : Nat} {g : Option Addr} {m : List Ch} (h : w.ownsRow B 57 4 (.slice g n cap) n (chsV m)) : n = m.length ∧ ChIn w g m := by
  have hl := h.1
  rw [chsV_length] at hl
  refine ⟨by omega, ?_⟩
  rcases h.2 with ⟨hv, hn⟩ | ⟨b, cap', cur, hv, hb, hg, rest⟩
  · left
    exact List.length_eq_zero_iff.1 (by omega)
  · simp only [Value.slice.injEq] at hv
    obtain ⟨rfl, _, rfl⟩ := hv
    refine .inr ⟨b, 0, rfl, lt_block hg, fun j c hj => ?_⟩
    have hc := chsV_get m j c hj
    have k := fun (q : Nat) (v : Value) (hq : (chsV m)[q]? = some v) => h.cells (g := b) rfl q v hq
    have k0 := k _ _ hc.1
    have k1 := k _ _ hc.2.1
    have k2 := k _ _ hc.2.2.1
    have k3 := k _ _ hc.2.2.2
    simp only [Addr.add_lit, Nat.zero_add] at k0 k1 k2 k3
    exact ⟨by rw [Nat.zero_add]; exact k0, by rw [Nat.zero_add]; exact k1, by rw [Nat.zero_add]; exact k2, by rw [Nat.zero_add]; exact k3⟩
theorem own_slice57 {w : World} {B n : Nat} {v : Value} {xs : List Value} (h : w.ownsRow B 57 4 v n xs) : ∃ g c, v = .slice g n c := by
  rcases h.2 with ⟨rfl, rfl⟩ | ⟨g, cap, cur, rfl, _⟩
  · exact ⟨_, _, rfl⟩
  · exact ⟨_, _, rfl⟩
theorem Try.info57 : (Try.prog.info? 57).map (fun i => (i.zero, i.size, i.bytes)) = some (some (.agg #[.int .i64 0, .int .i64 0, .int .i64 0, .bool false]), 4, 32) := by kernel_rfl

end Go.Proofs.Ytafmkalepgcnkaa
