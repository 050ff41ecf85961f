/-
  Layer 31, the plain law of the document's Places: to choose the best of those left, again and again, is the order of all. No program in sight.
-/
import Derived.Test.YtafmkalepgcnkaaPick
namespace Go.Proofs.Ytafmkalepgcnkaa
open Go.Sort

/-- The places of all, the best one first. -/
def poss (l : List Ch) : List Int := (srt l).map (·.pos)
theorem poss_length (l : List Ch) : (poss l).length = l.length := by unfold poss; rw [List.length_map, srt_length]
theorem poss_get (l : List Ch) (k : Nat) : (poss l)[k]? = (srt l)[k]?.map (·.pos) := by unfold poss; rw [List.getElem?_map]
theorem poss_nodup (l : List Ch) : (poss l).Nodup := (List.Perm.nodup_iff (List.Perm.map (fun p : Pl => p.pos) (srt_ok l).perm)).2 (st_nodup_pos l)
/-- The path at a place. -/
def pa (l : List Ch) (x : Nat) : Pl := ⟨l[x]?.getD default, (x : Int)⟩
theorem pa_mem (l : List Ch) (x : Nat) (h : x < l.length) : ∃ j : Nat, (srt l)[j]? = some (pa l x) := by
  have hm : pa l x ∈ st l := List.mem_of_getElem? (i := x) (by rw [st_get, List.getElem?_eq_getElem h]; simp [pa, List.getElem?_eq_getElem h])
  exact List.getElem?_of_mem ((srt_ok l).perm.mem_iff.2 hm)
theorem srt_at (l : List Ch) (k : Nat) (p : Pl) (h : (srt l)[k]? = some p) : ∃ n : Nat, p = pa l n ∧ n < l.length := by
  obtain ⟨n, h1, h2, h3⟩ := (srt_ok l).at h
  refine ⟨n, ?_, h2⟩
  obtain ⟨c, q⟩ := p
  simp only at h1 h3
  subst h1
  simp [pa, h3]

/-- Which places are taken, k being chosen. -/
def used (l : List Ch) (k : Nat) : List Bool := (List.range l.length).map fun (x : Nat) => inL ((poss l).take k) (x : Int)
theorem used_length (l : List Ch) (k : Nat) : (used l k).length = l.length := by simp [used]
theorem used_get (l : List Ch) (k x : Nat) (h : x < l.length) : (used l k)[x]? = some (inL ((poss l).take k) x) := by simp [used, h]
theorem used_zero (l : List Ch) : used l 0 = List.replicate l.length false := by
  apply List.ext_getElem
  · simp [used]
  · intro x h1 h2
    simp [used, inL]
theorem used_succ (l : List Ch) (k m : Nat) (h : (poss l)[k]? = some (m : Int)) : used l (k + 1) = (used l k).set m true := by
  have hk : k < (poss l).length := (List.getElem?_eq_some_iff.1 h).1
  apply List.ext_getElem
  · simp [used]
  · intro x h1 h2
    have e : inL ((poss l).take (k + 1)) (x : Int) = (inL ((poss l).take k) x || ((m : Int) == (x : Int))) := by
      rw [inL_step _ _ _ hk, h]; rfl
    rw [List.getElem_set]
    simp only [used, List.getElem_map, List.getElem_range]
    rw [e]
    by_cases hx : m = x
    · subst hx; simp
    · rw [if_neg hx]
      have : ((m : Int) == (x : Int)) = false := by rw [beq_eq_false_iff_ne]; omega
      rw [this, Bool.or_false]

/-- The best of those left, of the first i. -/
def Bst (l : List Ch) (k i : Nat) (b : Int) : Prop :=
  (b = -1 ∧ ∀ x : Nat, x < i → inL ((poss l).take k) x = true) ∨
  ∃ m : Nat, b = m ∧ m < i ∧ inL ((poss l).take k) m = false ∧ ∀ x : Nat, x < i → inL ((poss l).take k) x = false → lt2 (pa l x) (pa l m) = false
theorem Bst.start (l : List Ch) (k : Nat) : Bst l k 0 (-1) := .inl ⟨rfl, fun x h => by omega⟩
theorem Bst.skip {l : List Ch} {k i : Nat} {b : Int} (h : Bst l k i b) (hi : inL ((poss l).take k) i = true) : Bst l k (i + 1) b := by
  rcases h with ⟨h1, h2⟩ | ⟨m, h1, h2, h3, h4⟩
  · refine .inl ⟨h1, fun x hx => ?_⟩
    by_cases e : x = i
    · rw [e]; exact hi
    · exact h2 x (by omega)
  · refine .inr ⟨m, h1, by omega, h3, fun x hx hu => ?_⟩
    by_cases e : x = i
    · rw [e, hi] at hu; cases hu
    · exact h4 x (by omega) hu
theorem Bst.first {l : List Ch} {k i : Nat} (h : Bst l k i (-1)) (hi : inL ((poss l).take k) i = false) : Bst l k (i + 1) i := by
  rcases h with ⟨_, h2⟩ | ⟨m, h1, _⟩
  · refine .inr ⟨i, rfl, by omega, hi, fun x hx hu => ?_⟩
    by_cases e : x = i
    · rw [e]; exact lt2_swo.irrefl _
    · rw [h2 x (by omega)] at hu; cases hu
  · omega
theorem Bst.take {l : List Ch} {k i m : Nat} (h : Bst l k i m) (hi : inL ((poss l).take k) i = false) (hb : bet (pa l i).ch (pa l m).ch = true) : Bst l k (i + 1) i := by
  rcases h with ⟨h1, _⟩ | ⟨m', h1, h2, h3, h4⟩
  · omega
  · obtain rfl : m = m' := by omega
    have hl : lt2 (pa l i) (pa l m) = true := by unfold lt2; rw [hb]; rfl
    refine .inr ⟨i, rfl, by omega, hi, fun x hx hu => ?_⟩
    by_cases e : x = i
    · rw [e]; exact lt2_swo.irrefl _
    · cases hq : lt2 (pa l x) (pa l i)
      · rfl
      · have := lt2_swo.trans _ _ _ hq hl
        rw [h4 x (by omega) hu] at this; cases this
theorem Bst.keep {l : List Ch} {k i m : Nat} (h : Bst l k i m) (hb : bet (pa l i).ch (pa l m).ch = false) : Bst l k (i + 1) m := by
  rcases h with ⟨h1, _⟩ | ⟨m', h1, h2, h3, h4⟩
  · omega
  · obtain rfl : m = m' := by omega
    refine .inr ⟨m, rfl, by omega, h3, fun x hx hu => ?_⟩
    by_cases e : x = i
    · rw [e, ← lt2_agree (pa l i) (pa l m) (by simp only [pa]; omega)]; exact hb
    · exact h4 x (by omega) hu
theorem Bst.done {l : List Ch} {k : Nat} {b : Int} (h : Bst l k l.length b) (hk : k < l.length) : (poss l)[k]? = some b ∧ 0 ≤ b ∧ b < (l.length : Int) := by
  have hs : k < (srt l).length := by rw [srt_length]; exact hk
  have hsk : (srt l)[k]? = some (srt l)[k] := List.getElem?_eq_getElem hs
  obtain ⟨x0, hx0, hx1⟩ := srt_at l k _ hsk
  have hp : (poss l)[k]? = some (x0 : Int) := by rw [poss_get, hsk, hx0]; rfl
  have hpk : k < (poss l).length := by rw [poss_length]; exact hk
  have hun : inL ((poss l).take k) x0 = false := by
    cases hq : inL ((poss l).take k) x0
    · rfl
    · rw [inL_iff] at hq
      obtain ⟨j, hj, he⟩ := List.mem_take_iff_getElem.1 hq
      have h2 := List.pairwise_iff_getElem.1 (poss_nodup l) j k (by omega) hpk (by omega)
      rw [List.getElem?_eq_getElem hpk, Option.some.injEq] at hp
      exact absurd (he.trans hp.symm) h2
  rcases h with ⟨_, h2⟩ | ⟨m, rfl, h2, h3, h4⟩
  · rw [h2 x0 hx1] at hun; cases hun
  · obtain ⟨j, hj⟩ := pa_mem l m h2
    have hmin := h4 x0 hx1 hun
    rw [← hx0] at hmin
    have hjl : j < (srt l).length := (List.getElem?_eq_some_iff.1 hj).1
    have hje : (srt l)[j] = pa l m := (List.getElem?_eq_some_iff.1 hj).2
    rcases Nat.lt_trichotomy j k with hlt | heq | hgt
    · have : inL ((poss l).take k) m = true := by
        rw [inL_iff, List.mem_take_iff_getElem]
        refine ⟨j, by rw [poss_length]; omega, ?_⟩
        have : (poss l)[j]? = some (m : Int) := by rw [poss_get, hj]; rfl
        exact (List.getElem?_eq_some_iff.1 this).2
      rw [this] at h3; cases h3
    · subst heq
      refine ⟨?_, by omega, by omega⟩
      rw [poss_get, hj]; rfl
    · have := List.pairwise_iff_getElem.1 (srt_ok l).sorted k j hs hjl hgt
      rw [hje, hmin] at this; cases this

end Go.Proofs.Ytafmkalepgcnkaa
