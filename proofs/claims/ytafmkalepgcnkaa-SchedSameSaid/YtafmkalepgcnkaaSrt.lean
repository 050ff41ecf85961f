/-
  Layer 31, the plain law of all paths in order: what they are is settled by the order alone. No program in sight.
-/
import Derived.Test.YtafmkalepgcnkaaMerge
namespace Go.Proofs.Ytafmkalepgcnkaa
open Go.Sort

/-- All paths, as they are told. -/
def st (l : List Ch) : List Pl := l.zipIdx.map fun p => ⟨p.1, (p.2 : Int)⟩
theorem st_length (l : List Ch) : (st l).length = l.length := by simp [st]
theorem st_get (l : List Ch) (k : Nat) : (st l)[k]? = l[k]?.map fun c => ⟨c, (k : Int)⟩ := by
  unfold st
  rw [List.getElem?_map, List.getElem?_zipIdx]
  cases l[k]? <;> simp
theorem st_take (l : List Ch) (k : Nat) (c : Ch) (h : l[k]? = some c) : (st l).take (k + 1) = (st l).take k ++ [⟨c, (k : Int)⟩] := by
  rw [List.take_add_one, st_get, h]; rfl
theorem st_mem {l : List Ch} {p : Pl} (h : p ∈ st l) : ∃ n : Nat, p.pos = n ∧ l[n]? = some p.ch := by
  obtain ⟨k, hk⟩ := List.getElem?_of_mem h
  rw [st_get] at hk
  obtain ⟨c, hc, rfl⟩ := Option.map_eq_some_iff.1 hk
  exact ⟨k, rfl, hc⟩
theorem st_asc (l : List Ch) : Asc 0 0 (st l).toArray.size (st l).toArray := by
  intro p q _ hpq _ hq
  rw [List.size_toArray, st_length] at hq
  have g : ∀ k, k < l.length → (st l).toArray[k]!.pos = (k : Int) := fun k hk => by
    have h : (st l)[k]? = some ⟨l[k], (k : Int)⟩ := by rw [st_get, List.getElem?_eq_getElem hk]; rfl
    rw [getElem!_def, List.getElem?_toArray, h]
  rw [g p (by omega), g q hq]; omega
theorem st_nodup_pos (l : List Ch) : ((st l).map (·.pos)).Nodup := by
  unfold st
  rw [List.map_map]
  have e : ((fun x : Pl => x.pos) ∘ fun p : Ch × Nat => (⟨p.1, (p.2 : Int)⟩ : Pl)) = (fun n : Nat => (n : Int)) ∘ Prod.snd := rfl
  rw [e, ← List.map_map, List.zipIdx_map_snd]
  exact List.Pairwise.map _ (fun a b h => by intro e; exact h (by omega)) (List.nodup_range' (s := 0) (n := l.length) (step := 1) (by omega))

/-- s is all paths of l, the best first. -/
structure Srt (l : List Ch) (s : List Pl) : Prop where
  perm : s.Perm (st l)
  sorted : s.Pairwise fun x y => lt2 x y = true
theorem Srt.length {l : List Ch} {s : List Pl} (h : Srt l s) : s.length = l.length := by rw [h.perm.length_eq, st_length]
theorem Srt.at {l : List Ch} {s : List Pl} (h : Srt l s) {k : Nat} {p : Pl} (hk : s[k]? = some p) : ∃ n : Nat, p.pos = n ∧ n < l.length ∧ l[n]? = some p.ch := by
  obtain ⟨n, h1, h2⟩ := st_mem (h.perm.mem_iff.1 (List.mem_of_getElem? hk))
  exact ⟨n, h1, (List.getElem?_eq_some_iff.1 h2).1, h2⟩
/-- Two rows in strict order that hold the same are one. -/
theorem perm_sorted_eq {R : Pl → Pl → Prop} (asym : ∀ x y, R x y → R y x → False) : ∀ {s t : List Pl}, s.Perm t → s.Pairwise R → t.Pairwise R → s = t
  | [], t, h, _, _ => (List.nil_perm.1 h).symm
  | x :: s, [], h, _, _ => absurd (List.perm_nil.1 h) (by simp)
  | x :: s, y :: t, h, hs, ht => by
    rw [List.pairwise_cons] at hs ht
    have e : x = y := by
      rcases List.mem_cons.1 (h.mem_iff.1 (List.mem_cons_self (a := x) (l := s))) with e | hx
      · exact e
      · rcases List.mem_cons.1 (h.mem_iff.2 (List.mem_cons_self (a := y) (l := t))) with e | hy
        · exact e.symm
        · exact absurd (ht.1 x hx) (fun h1 => asym _ _ h1 (hs.1 y hy))
    subst e
    rw [perm_sorted_eq asym (List.Perm.cons_inv h) hs.2 ht.2]
theorem lt2_asym (x y : Pl) (h1 : lt2 x y = true) (h2 : lt2 y x = true) : False := by
  have := lt2_asymm h1; rw [h2] at this; cases this
theorem Srt.uniq {l : List Ch} {s t : List Pl} (h : Srt l s) (h' : Srt l t) : s = t := perm_sorted_eq lt2_asym (h.perm.trans h'.perm.symm) h.sorted h'.sorted

/-- What the library's sort leaves is in order. -/
theorem srt_of {l : List Ch} {d : Array Pl} {n : Nat} (hn : n = l.length) (hp : PermIn 0 n (st l).toArray d) (hs : SortedIn lt2 0 n d) : Srt l d.toList := by
  have hsz : d.size = n := by rw [hp.1, List.size_toArray, st_length, hn]
  have e1 : d.extract 0 n = d := by rw [← hsz]; exact Array.extract_size
  have e2 : (st l).toArray.extract 0 n = (st l).toArray := by
    have : n = (st l).toArray.size := by rw [List.size_toArray, st_length, hn]
    rw [this]; exact Array.extract_size
  have h := hp.2.2
  rw [e1, e2] at h
  have hperm : d.toList.Perm (st l) := h
  refine ⟨hperm, ?_⟩
  have hnd : (d.toList.map (·.pos)).Nodup := ((hperm.map (·.pos)).nodup_iff).2 (st_nodup_pos l)
  rw [List.pairwise_iff_getElem]
  intro i j hi hj hij
  have hi' : i < d.size := by simpa using hi
  have hj' : j < d.size := by simpa using hj
  have hf := hs i j (Nat.zero_le _) hij (by omega)
  rw [getElem!_pos d i hi', getElem!_pos d j hj'] at hf
  refine lt2_total _ _ (fun he => ?_) hf
  have hnd' := List.pairwise_iff_getElem.1 hnd i j (by simpa using hi) (by simpa using hj) hij
  simp only [List.getElem_map] at hnd'
  exact hnd' he

/-- The numbers of all, the best first. -/
def ids (s : List Pl) : List Int := s.map fun p => p.ch.id
/-- The first that has room, or none. -/
def pick : List Pl → Int × Bool
  | [] => (0, false)
  | p :: s => if p.ch.room then (p.ch.id, true) else pick s
theorem pick_none : ∀ (s : List Pl) (k : Nat), (∀ i p, i < k → s[i]? = some p → p.ch.room = false) → pick s = pick (s.drop k)
  | [], k, _ => by simp
  | p :: s, 0, _ => rfl
  | p :: s, k + 1, h => by
    have h0 := h 0 p (by omega) rfl
    rw [pick, h0, if_neg (by decide)]
    exact pick_none s k (fun i q hi hq => h (i + 1) q (by omega) (by simpa using hq))
theorem pick_hit (s : List Pl) (k : Nat) (p : Pl) (h : ∀ i p, i < k → s[i]? = some p → p.ch.room = false) (hk : s[k]? = some p) (hr : p.ch.room = true) : pick s = (p.ch.id, true) := by
  obtain ⟨hlt, he⟩ := List.getElem?_eq_some_iff.1 hk
  rw [pick_none s k h, List.drop_eq_getElem_cons hlt, he, pick, hr, if_pos rfl]
theorem pick_all (s : List Pl) (h : ∀ i p, i < s.length → s[i]? = some p → p.ch.room = false) : pick s = (0, false) := by
  rw [pick_none s s.length h, List.drop_length]; rfl

end Go.Proofs.Ytafmkalepgcnkaa
