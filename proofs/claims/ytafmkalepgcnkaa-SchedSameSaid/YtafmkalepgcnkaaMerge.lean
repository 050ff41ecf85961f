/-
  Layer 31, the plain law of the merge in place: two sorted rows side by side become one, by a search, an exchange, and two lesser merges. No program in sight.
-/
import Derived.Test.YtafmkalepgcnkaaOrder
namespace Go.Proofs.Ytafmkalepgcnkaa
open Go.Sort

/-- What a merge needs: both rows sorted, and all of the left one told ahead of all of the right one. -/
structure MPre (d : Array Pl) (a m b : Nat) : Prop where
  am : a ≤ m
  mb : m ≤ b
  bd : b ≤ d.size
  left : SortedIn lt2 a m d
  right : SortedIn lt2 m b d
  cross : ∀ x y, a ≤ x → x < m → m ≤ y → y < b → d[x]!.pos < d[y]!.pos
/-- What a merge leaves. -/
def MPost (d : Array Pl) (a b : Nat) (d' : Array Pl) : Prop := PermIn a b d d' ∧ SortedIn lt2 a b d'

theorem sorted_le {d : Array Pl} {a b : Nat} (h : SortedIn lt2 a b d) (i j : Nat) (h1 : a ≤ i) (h2 : i ≤ j) (h3 : j < b) : lt2 d[j]! d[i]! = false := by
  by_cases e : i = j
  · subst e; exact lt2_swo.irrefl _
  · exact h i j h1 (by omega) h3
section
variable {d : Array Pl} {a m b : Nat}
theorem MPre.agree (h : MPre d a m b) (x y : Nat) (h1 : a ≤ x) (h2 : x < m) (h3 : m ≤ y) (h4 : y < b) : ltP d[y]! d[x]! = lt2 d[y]! d[x]! := lt2_agree _ _ (h.cross x y h1 h2 h3 h4)
theorem MPre.none (h : MPre d a m b) (he : a = m ∨ m = b) : MPost d a b d := by
  refine ⟨permIn_refl d a b, ?_⟩
  rcases he with rfl | rfl
  · exact h.right
  · exact h.left

/-! ### The left row has one -/
structure Find1 (d : Array Pl) (a m b i j : Nat) : Prop where
  mi : m ≤ i
  ij : i ≤ j
  jb : j ≤ b
  lo : ∀ x, m ≤ x → x < i → lt2 d[x]! d[a]! = true
  hi : ∀ x, j ≤ x → x < b → lt2 d[x]! d[a]! = false
theorem Find1.start (h : MPre d a m b) : Find1 d a m b m b := ⟨Nat.le_refl _, h.mb, Nat.le_refl _, fun x h1 h2 => by omega, fun x h1 h2 => by omega⟩
theorem Find1.yes {i j c : Nat} (f : Find1 d a m b i j) (h : MPre d a m b) (ha : a < m) (hi : i ≤ c) (hj : c < j) (ht : ltP d[c]! d[a]! = true) : Find1 d a m b (c + 1) j := by
  have h1 := f.mi; have h2 := f.jb
  rw [h.agree a c (Nat.le_refl _) ha (by omega) (by omega)] at ht
  exact ⟨by omega, by omega, h2, fun x hx1 hx2 => lt2_of_le_lt (sorted_le h.right x c hx1 (by omega) (by omega)) ht, f.hi⟩
theorem Find1.no {i j c : Nat} (f : Find1 d a m b i j) (h : MPre d a m b) (ha : a < m) (hi : i ≤ c) (hj : c < j) (ht : ltP d[c]! d[a]! = false) : Find1 d a m b i c := by
  have h1 := f.mi; have h2 := f.jb
  rw [h.agree a c (Nat.le_refl _) ha (by omega) (by omega)] at ht
  exact ⟨h1, hi, by omega, f.lo, fun x hx1 hx2 => lt2_swo.ntrans _ _ _ (sorted_le h.right c x (by omega) hx1 hx2) ht⟩
theorem Find1.done {i : Nat} (f : Find1 d a m b i i) (h : MPre d a m b) (ha : m = a + 1) : MPost d a b (upR d a (i - 1 - a)) := by
  have h1 := f.mi; have h2 := f.jb; have h3 := h.bd; have h4 := h.mb
  have g := upR_get d a (i - 1 - a) (by omega)
  refine ⟨upR_perm d a b _ (by omega) h3, fun x y hx hxy hy => ?_⟩
  rw [g, g]
  by_cases cx : x < a + (i - 1 - a)
  · rw [if_pos (show a ≤ x ∧ x < a + (i - 1 - a) from ⟨hx, cx⟩)]
    by_cases cy : y < a + (i - 1 - a)
    · rw [if_pos (show a ≤ y ∧ y < a + (i - 1 - a) by omega)]
      exact h.right _ _ (by omega) (by omega) (by omega)
    · rw [if_neg (show ¬ (a ≤ y ∧ y < a + (i - 1 - a)) by omega)]
      by_cases ey : y = a + (i - 1 - a)
      · rw [if_pos ey]; exact lt2_asymm (f.lo _ (by omega) (by omega))
      · rw [if_neg ey]; exact h.right _ _ (by omega) (by omega) hy
  · rw [if_neg (show ¬ (a ≤ x ∧ x < a + (i - 1 - a)) by omega), if_neg (show ¬ (a ≤ y ∧ y < a + (i - 1 - a)) by omega), if_neg (show ¬ y = a + (i - 1 - a) by omega)]
    by_cases ex : x = a + (i - 1 - a)
    · rw [if_pos ex]; exact f.hi y (by omega) hy
    · rw [if_neg ex]; exact h.right _ _ (by omega) hxy hy

/-! ### The right row has one -/
structure Find2 (d : Array Pl) (a m i j : Nat) : Prop where
  ai : a ≤ i
  ij : i ≤ j
  jm : j ≤ m
  lo : ∀ x, a ≤ x → x < i → lt2 d[m]! d[x]! = false
  hi : ∀ x, j ≤ x → x < m → lt2 d[m]! d[x]! = true
theorem Find2.start (h : MPre d a m b) : Find2 d a m a m := ⟨Nat.le_refl _, h.am, Nat.le_refl _, fun x h1 h2 => by omega, fun x h1 h2 => by omega⟩
theorem Find2.yes {i j c : Nat} (f : Find2 d a m i j) (h : MPre d a m b) (hb : m < b) (hi : i ≤ c) (hj : c < j) (ht : ltP d[m]! d[c]! = false) : Find2 d a m (c + 1) j := by
  have h1 := f.ai; have h2 := f.jm
  rw [h.agree c m (by omega) (by omega) (Nat.le_refl _) hb] at ht
  exact ⟨by omega, by omega, h2, fun x hx1 hx2 => lt2_swo.ntrans _ _ _ ht (sorted_le h.left x c hx1 (by omega) (by omega)), f.hi⟩
theorem Find2.no {i j c : Nat} (f : Find2 d a m i j) (h : MPre d a m b) (hb : m < b) (hi : i ≤ c) (hj : c < j) (ht : ltP d[m]! d[c]! = true) : Find2 d a m i c := by
  have h1 := f.ai; have h2 := f.jm
  rw [h.agree c m (by omega) (by omega) (Nat.le_refl _) hb] at ht
  exact ⟨h1, hi, by omega, f.lo, fun x hx1 hx2 => lt2_of_lt_le ht (sorted_le h.left c x (by omega) hx1 hx2)⟩
theorem Find2.done {i : Nat} (f : Find2 d a m i i) (h : MPre d a m b) (hb : b = m + 1) : MPost d a b (downR d m (m - i)) := by
  have h1 := f.ai; have h2 := f.jm; have h3 := h.bd
  have g := downR_get d m (m - i) (by omega) (by omega)
  have em : m - (m - i) = i := by omega
  rw [em] at g
  refine ⟨downR_perm d a b m _ (by omega) (by omega) h3, fun x y hx hxy hy => ?_⟩
  rw [g, g]
  by_cases ex : x = i
  · rw [if_pos ex, if_neg (show ¬ y = i by omega), if_pos (show i < y ∧ y ≤ m by omega)]
    exact lt2_asymm (f.hi _ (by omega) (by omega))
  · rw [if_neg ex]
    by_cases cx : i < x ∧ x ≤ m
    · rw [if_pos cx, if_neg (show ¬ y = i by omega), if_pos (show i < y ∧ y ≤ m by omega)]
      exact h.left _ _ (by omega) (by omega) (by omega)
    · rw [if_neg cx]
      by_cases ey : y = i
      · rw [if_pos ey]; exact f.lo x hx (by omega)
      · rw [if_neg ey]
        by_cases cy : i < y ∧ y ≤ m
        · rw [if_pos cy]; exact h.left _ _ hx (by omega) (by omega)
        · rw [if_neg cy]; exact h.left _ _ hx hxy (by omega)

/-! ### Both rows have more -/
/-- Where the search begins and ends. -/
structure Mid (a m b mid s0 r0 : Nat) : Prop where
  am : a < m
  mb : m < b
  lo : 2 * mid ≤ a + b
  hi : a + b < 2 * mid + 2
  cs : (mid < m ∧ s0 + b = mid + m ∧ r0 = mid) ∨ (m ≤ mid ∧ s0 = a ∧ r0 = m)
structure Find3 (d : Array Pl) (p s0 r0 s r : Nat) : Prop where
  ss : s0 ≤ s
  sr : s ≤ r
  rr : r ≤ r0
  lo : ∀ c, s0 ≤ c → c < s → lt2 d[p - c]! d[c]! = false
  hi : ∀ c, r ≤ c → c < r0 → lt2 d[p - c]! d[c]! = true
variable {mid s0 r0 : Nat}
theorem Mid.le (q : Mid a m b mid s0 r0) : s0 ≤ r0 := by
  have h1 := q.am; have h2 := q.mb; have h3 := q.lo; have h4 := q.hi
  rcases q.cs with ⟨h5, h6, h7⟩ | ⟨h5, h6, h7⟩ <;> omega
/-- Where the search looks: in the left row, and opposite in the right one. -/
theorem Mid.at (q : Mid a m b mid s0 r0) (c : Nat) (h : s0 ≤ c) (h' : c < r0) : a ≤ c ∧ c < m ∧ m ≤ mid + m - 1 - c ∧ mid + m - 1 - c < b ∧ c ≤ mid + m - 1 := by
  have h1 := q.am; have h2 := q.mb; have h3 := q.lo; have h4 := q.hi
  rcases q.cs with ⟨h5, h6, h7⟩ | ⟨h5, h6, h7⟩ <;> omega
theorem Find3.start (q : Mid a m b mid s0 r0) : Find3 d (mid + m - 1) s0 r0 s0 r0 := ⟨Nat.le_refl _, q.le, Nat.le_refl _, fun x h1 h2 => by omega, fun x h1 h2 => by omega⟩
theorem Find3.yes {s r c : Nat} (f : Find3 d (mid + m - 1) s0 r0 s r) (q : Mid a m b mid s0 r0) (h : MPre d a m b) (hs : s ≤ c) (hr : c < r) (ht : ltP d[mid + m - 1 - c]! d[c]! = false) : Find3 d (mid + m - 1) s0 r0 (c + 1) r := by
  have h1 := f.ss; have h2 := f.rr
  have hc := q.at c (by omega) (by omega)
  rw [h.agree c _ hc.1 hc.2.1 hc.2.2.1 hc.2.2.2.1] at ht
  refine ⟨by omega, by omega, h2, fun x hx1 hx2 => ?_, f.hi⟩
  have hx := q.at x hx1 (by omega)
  exact lt2_swo.ntrans _ _ _ (lt2_swo.ntrans _ _ _ (sorted_le h.right (mid + m - 1 - c) (mid + m - 1 - x) hc.2.2.1 (by omega) hx.2.2.2.1) ht) (sorted_le h.left x c hx.1 (by omega) hc.2.1)
theorem Find3.no {s r c : Nat} (f : Find3 d (mid + m - 1) s0 r0 s r) (q : Mid a m b mid s0 r0) (h : MPre d a m b) (hs : s ≤ c) (hr : c < r) (ht : ltP d[mid + m - 1 - c]! d[c]! = true) : Find3 d (mid + m - 1) s0 r0 s c := by
  have h1 := f.ss; have h2 := f.rr
  have hc := q.at c (by omega) (by omega)
  rw [h.agree c _ hc.1 hc.2.1 hc.2.2.1 hc.2.2.2.1] at ht
  refine ⟨h1, hs, by omega, f.lo, fun x hx1 hx2 => ?_⟩
  have hx := q.at x (by omega) hx2
  exact lt2_of_lt_le (lt2_of_le_lt (sorted_le h.right (mid + m - 1 - x) (mid + m - 1 - c) hx.2.2.1 (by omega) hc.2.2.2.1) ht) (sorted_le h.left c x hc.1 hx1 hx.2.1)

/-- Both rows are parted: what lies below is not behind what lies above. -/
structure Parted (d : Array Pl) (a m b s e : Nat) : Prop where
  as : a ≤ s
  sm : s ≤ m
  me : m ≤ e
  eb : e ≤ b
  f1 : ∀ x y, a ≤ x → x < s → e ≤ y → y < b → lt2 d[y]! d[x]! = false
  f2 : ∀ x y, s ≤ x → x < m → m ≤ y → y < e → lt2 d[x]! d[y]! = false
theorem Find3.done {s : Nat} (f : Find3 d (mid + m - 1) s0 r0 s s) (q : Mid a m b mid s0 r0) (h : MPre d a m b) : Parted d a m b s (mid + m - s) := by
  have h1 := q.am; have h2 := q.mb; have h3 := q.lo; have h4 := q.hi
  have h5 := f.ss; have h6 := f.rr
  have hb : a ≤ s ∧ s ≤ m ∧ m ≤ mid + m - s ∧ mid + m - s ≤ b := by
    rcases q.cs with ⟨h7, h8, h9⟩ | ⟨h7, h8, h9⟩ <;> omega
  refine ⟨hb.1, hb.2.1, hb.2.2.1, hb.2.2.2, fun x y hx1 hx2 hy1 hy2 => ?_, fun x y hx1 hx2 hy1 hy2 => ?_⟩
  · have hs0 : s0 < s := by rcases q.cs with ⟨h7, h8, h9⟩ | ⟨h7, h8, h9⟩ <;> omega
    have hc := q.at (s - 1) (by omega) (by omega)
    have ht := f.lo (s - 1) (by omega) (by omega)
    have e1 : mid + m - 1 - (s - 1) = mid + m - s := by omega
    rw [e1] at ht
    exact lt2_swo.ntrans _ _ _ (lt2_swo.ntrans _ _ _ (sorted_le h.right (mid + m - s) y (by omega) hy1 hy2) ht) (sorted_le h.left x (s - 1) hx1 (by omega) hc.2.1)
  · have hr0 : s < r0 := by rcases q.cs with ⟨h7, h8, h9⟩ | ⟨h7, h8, h9⟩ <;> omega
    have hc := q.at s (by omega) hr0
    have ht := f.hi s (Nat.le_refl _) hr0
    exact lt2_asymm (lt2_of_lt_le (lt2_of_le_lt (sorted_le h.right y (mid + m - 1 - s) hy1 (by omega) hc.2.2.2.1) ht) (sorted_le h.left s x hc.1 hx1 hx2))

variable {s e : Nat} {d1 d2 d3 : Array Pl}
/-- Behind the exchange: the lower half. -/
theorem Parted.lower (t : Parted d a m b s e) (h : MPre d a m b) (hr : Rot d s m e d1) : MPre d1 a s (s + (e - m)) := by
  have h1 := t.as; have h2 := t.sm; have h3 := t.me; have h4 := t.eb
  refine ⟨h1, by omega, by rw [hr.perm.1]; have := h.bd; omega, fun x y hx hxy hy => ?_, fun x y hx hxy hy => ?_, fun x y hx1 hx2 hy1 hy2 => ?_⟩
  · rw [hr.perm.2.1 x (by omega), hr.perm.2.1 y (by omega)]; exact h.left x y hx hxy (by omega)
  · rw [hr.left x hx (by omega), hr.left y (by omega) hy]; exact h.right _ _ (by omega) (by omega) (by omega)
  · rw [hr.perm.2.1 x (by omega), hr.left y hy1 hy2]; exact h.cross _ _ hx1 (by omega) (by omega) (by omega)
/-- Behind the exchange, and whatever became of the lower half: the upper one. -/
theorem Parted.upper (t : Parted d a m b s e) (h : MPre d a m b) (hr : Rot d s m e d1) (hp : PermIn a (s + (e - m)) d1 d2) : MPre d2 (s + (e - m)) e b := by
  have h1 := t.as; have h2 := t.sm; have h3 := t.me; have h4 := t.eb
  have k : ∀ x, s + (e - m) ≤ x → d2[x]! = d1[x]! := fun x hx => hp.2.1 x (by omega)
  refine ⟨by omega, h4, by rw [hp.1, hr.perm.1]; exact h.bd, fun x y hx hxy hy => ?_, fun x y hx hxy hy => ?_, fun x y hx1 hx2 hy1 hy2 => ?_⟩
  · rw [k x hx, k y (by omega), hr.right x hx (by omega), hr.right y (by omega) hy]; exact h.left _ _ (by omega) (by omega) (by omega)
  · rw [k x (by omega), k y (by omega), hr.perm.2.1 x (by omega), hr.perm.2.1 y (by omega)]; exact h.right x y (by omega) hxy hy
  · rw [k x hx1, k y (by omega), hr.right x hx1 hx2, hr.perm.2.1 y (by omega)]; exact h.cross _ _ (by omega) (by omega) (by omega) hy2
/-- Both halves merged: all is. -/
theorem Parted.join (t : Parted d a m b s e) (h : MPre d a m b) (hr : Rot d s m e d1) (p2 : MPost d1 a (s + (e - m)) d2) (p3 : MPost d2 (s + (e - m)) b d3) : MPost d a b d3 := by
  have h1 := t.as; have h2 := t.sm; have h3 := t.me; have h4 := t.eb; have h5 := h.bd
  have s1 : d1.size = d.size := hr.perm.1
  have s2 : d2.size = d.size := p2.1.1.trans s1
  have c1 : ∀ x y, a ≤ x → x < s + (e - m) → s + (e - m) ≤ y → y < b → lt2 d1[y]! d1[x]! = false := fun x y hx1 hx2 hy1 hy2 => by
    by_cases cx : x < s
    · rw [hr.perm.2.1 x (by omega)]
      by_cases cy : y < e
      · rw [hr.right y hy1 cy]; exact h.left _ _ hx1 (by omega) (by omega)
      · rw [hr.perm.2.1 y (by omega)]; exact t.f1 x y hx1 cx (by omega) hy2
    · rw [hr.left x (by omega) hx2]
      by_cases cy : y < e
      · rw [hr.right y hy1 cy]; exact t.f2 _ _ (by omega) (by omega) (by omega) (by omega)
      · rw [hr.perm.2.1 y (by omega)]; exact h.right _ _ (by omega) (by omega) hy2
  have c2 : ∀ x y, a ≤ x → x < s + (e - m) → s + (e - m) ≤ y → y < b → lt2 d2[y]! d2[x]! = false := fun x y hx1 hx2 hy1 hy2 => by
    rw [p2.1.2.1 y (by omega)]
    exact permIn_all d1 d2 a (s + (e - m)) (fun z => lt2 d1[y]! z = false) (by omega) p2.1 (fun i hi1 hi2 => c1 i y hi1 hi2 hy1 hy2) x hx1 hx2
  refine ⟨?_, fun x y hx hxy hy => ?_⟩
  · exact permIn_trans _ _ _ a b (permIn_mono _ _ s e a b (by omega) (by omega) h5 hr.perm) (permIn_trans _ _ _ a b (permIn_mono _ _ a (s + (e - m)) a b (Nat.le_refl _) (by omega) (by omega) p2.1) (permIn_mono _ _ (s + (e - m)) b a b (by omega) (Nat.le_refl _) (by omega) p3.1))
  · by_cases cx : s + (e - m) ≤ x
    · exact p3.2 x y cx hxy hy
    · rw [p3.1.2.1 x (by omega)]
      by_cases cy : s + (e - m) ≤ y
      · exact permIn_all d2 d3 (s + (e - m)) b (fun z => lt2 z d2[x]! = false) (by omega) p3.1 (fun i hi1 hi2 => c2 x i hx (by omega) hi1 hi2) y cy hy
      · rw [p3.1.2.1 y (by omega)]; exact p2.2 x y hx hxy (by omega)
end

/-! ### Runs: rows side by side, each sorted, each told behind the one ahead -/
def Runs (same : Nat → Nat → Prop) (d : Array Pl) (n : Nat) : Prop := ∀ x y, x < y → y < n → (same x y → lt2 d[y]! d[x]! = false) ∧ (¬ same x y → d[x]!.pos < d[y]!.pos)
section
variable {same same' : Nat → Nat → Prop} {d d' : Array Pl} {n a m b : Nat}
theorem Runs.step (h : Runs same d n) (hn : n ≤ d.size) (hb : b ≤ n) (hp : MPost d a b d') (h1 : ∀ x y, x < y → a ≤ x → y < b → same' x y)
    (h2 : ∀ x y, x < y → y < n → ¬ (a ≤ x ∧ y < b) → (same' x y ↔ same x y)) (h3 : ∀ x y, x < y → y < n → (a ≤ x ∧ x < b ∧ b ≤ y) ∨ (x < a ∧ a ≤ y ∧ y < b) → ¬ same x y) : Runs same' d' n := by
  intro x y hxy hy
  by_cases c : a ≤ x ∧ y < b
  · exact ⟨fun _ => hp.2 x y c.1 hxy c.2, fun hs => absurd (h1 x y hxy c.1 c.2) hs⟩
  · rw [h2 x y hxy hy c]
    by_cases cx : a ≤ x ∧ x < b
    · have hn' := h3 x y hxy hy (.inl ⟨cx.1, cx.2, by omega⟩)
      refine ⟨fun hs => absurd hs hn', fun _ => ?_⟩
      rw [hp.1.2.1 y (by omega)]
      exact permIn_all d d' a b (fun z => z.pos < d[y]!.pos) (by omega) hp.1 (fun i hi1 hi2 => (h i y (by omega) hy).2 (h3 i y (by omega) hy (.inl ⟨hi1, hi2, by omega⟩))) x cx.1 cx.2
    · rw [hp.1.2.1 x (by omega)]
      by_cases cy : a ≤ y ∧ y < b
      · have hn' := h3 x y hxy hy (.inr ⟨by omega, cy.1, cy.2⟩)
        refine ⟨fun hs => absurd hs hn', fun _ => ?_⟩
        exact permIn_all d d' a b (fun z => d[x]!.pos < z.pos) (by omega) hp.1 (fun i hi1 hi2 => (h x i (by omega) (by omega)).2 (h3 x i (by omega) (by omega) (.inr ⟨by omega, hi1, hi2⟩))) y cy.1 cy.2
      · rw [hp.1.2.1 y (by omega)]; exact h x y hxy hy
theorem Runs.asc (h : Runs same d n) (hb : b ≤ n) (h1 : ∀ x y, a ≤ x → x < y → y < b → ¬ same x y) : Asc a a b d :=
  fun p q hp hpq _ hq => (h p q hpq (by omega)).2 (h1 p q hp hpq hq)
theorem Runs.pre (h : Runs same d n) (hn : n ≤ d.size) (am : a ≤ m) (mb : m ≤ b) (hb : b ≤ n) (h1 : ∀ x y, a ≤ x → x < y → y < m → same x y) (h2 : ∀ x y, m ≤ x → x < y → y < b → same x y) (h3 : ∀ x y, a ≤ x → x < m → m ≤ y → y < b → ¬ same x y) : MPre d a m b :=
  ⟨am, mb, by omega, fun x y hx hxy hy => (h x y hxy (by omega)).1 (h1 x y hx hxy hy), fun x y hx hxy hy => (h x y hxy (by omega)).1 (h2 x y hx hxy hy), fun x y hx1 hx2 hy1 hy2 => (h x y (by omega) (by omega)).2 (h3 x y hx1 hx2 hy1 hy2)⟩
theorem Runs.all (h : Runs same d n) (h1 : ∀ x y, x < y → y < n → same x y) : SortedIn lt2 0 n d := fun x y _ hxy hy => (h x y hxy hy).1 (h1 x y hxy hy)
theorem Runs.change (h : Runs same d n) (h1 : ∀ x y, x < y → y < n → (same' x y ↔ same x y)) : Runs same' d n := fun x y hxy hy => by rw [h1 x y hxy hy]; exact h x y hxy hy
end

/-- The runs of 20, those below place 20 k. -/
def S20 (k : Nat) (x y : Nat) : Prop := x / 20 = y / 20 ∧ y < 20 * k
/-- The runs of s, all. -/
def SS (s : Nat) (x y : Nat) : Prop := x / s = y / s
/-- The runs of 2 s below place 2 s q, and those of s behind. -/
def SM (s q : Nat) (x y : Nat) : Prop := (y < 2 * s * q ∧ x / (2 * s) = y / (2 * s)) ∨ (2 * s * q ≤ x ∧ x / s = y / s)

section
variable {d d' : Array Pl} {n k q s : Nat}
theorem runs_start (h : Asc 0 0 n d) : Runs (S20 0) d n := fun x y hxy hy => ⟨fun hs => by unfold S20 at hs; omega, fun _ => h x y (by omega) hxy (by omega) hy⟩
theorem runs_ins_asc (h : Runs (S20 k) d n) (b : Nat) (hb : b ≤ n) : Asc (20 * k) (20 * k) b d := h.asc hb (fun x y hx hxy hy => by unfold S20; omega)
theorem runs_ins (h : Runs (S20 k) d n) (hn : n ≤ d.size) (hb : 20 * k + 20 ≤ n) (hp : MPost d (20 * k) (20 * k + 20) d') : Runs (S20 (k + 1)) d' n :=
  h.step hn hb hp (fun x y h1 h2 h3 => by unfold S20; omega) (fun x y h1 h2 h3 => by unfold S20; omega) (fun x y h1 h2 h3 => by unfold S20; omega)
theorem runs_last (h : Runs (S20 k) d n) (hn : n ≤ d.size) (h1 : 20 * k ≤ n) (h2 : n < 20 * k + 20) (hp : MPost d (20 * k) n d') : Runs (SS 20) d' n :=
  h.step hn (Nat.le_refl _) hp (fun x y h1 h2 h3 => by unfold SS; omega) (fun x y h1 h2 h3 => by unfold SS S20; omega) (fun x y h1 h2 h3 => by unfold S20; omega)
theorem runs_pass (h : Runs (SS s) d n) : Runs (SM s 0) d n := h.change fun x y _ _ => by unfold SS SM; simp
theorem runs_merge_pre (h : Runs (SM s q) d n) (hs : s = 20 ∨ s = 40) (hn : n ≤ d.size) (b : Nat) (h1 : 2 * s * q + s ≤ b) (h2 : b ≤ n) (h3 : b ≤ 2 * s * q + 2 * s) : MPre d (2 * s * q) (2 * s * q + s) b :=
  h.pre hn (by omega) h1 h2 (fun x y hx hxy hy => by unfold SM; rcases hs with rfl | rfl <;> omega) (fun x y hx hxy hy => by unfold SM; rcases hs with rfl | rfl <;> omega) (fun x y hx1 hx2 hy1 hy2 => by unfold SM; rcases hs with rfl | rfl <;> omega)
theorem runs_merge (h : Runs (SM s q) d n) (hs : s = 20 ∨ s = 40) (hn : n ≤ d.size) (h2 : 2 * s * q + 2 * s ≤ n) (hp : MPost d (2 * s * q) (2 * s * q + 2 * s) d') : Runs (SM s (q + 1)) d' n :=
  h.step hn h2 hp (fun x y h1 h2 h3 => by unfold SM; rcases hs with rfl | rfl <;> omega) (fun x y h1 h2 h3 => by unfold SM; rcases hs with rfl | rfl <;> omega) (fun x y h1 h2 h3 => by unfold SM; rcases hs with rfl | rfl <;> omega)
theorem runs_rest (h : Runs (SM s q) d n) (hs : s = 20 ∨ s = 40) (hn : n ≤ d.size) (h2 : 2 * s * q + s < n) (h3 : n < 2 * s * q + 2 * s) (hp : MPost d (2 * s * q) n d') : Runs (SS (2 * s)) d' n :=
  h.step hn (Nat.le_refl _) hp (fun x y h1 h2 h3 => by unfold SS; rcases hs with rfl | rfl <;> omega) (fun x y h1 h2 h3 => by unfold SS SM; rcases hs with rfl | rfl <;> omega) (fun x y h1 h2 h3 => by unfold SM; rcases hs with rfl | rfl <;> omega)
theorem runs_none (h : Runs (SM s q) d n) (hs : s = 20 ∨ s = 40) (h2 : n ≤ 2 * s * q + s) : Runs (SS (2 * s)) d n :=
  h.change fun x y hxy hy => by unfold SS SM; rcases hs with rfl | rfl <;> omega
theorem runs_done (h : Runs (SS s) d n) (hs : n ≤ s) : SortedIn lt2 0 n d := h.all fun x y hxy hy => by unfold SS; rw [Nat.div_eq_of_lt (by omega), Nat.div_eq_of_lt (by omega)]
end

end Go.Proofs.Ytafmkalepgcnkaa
