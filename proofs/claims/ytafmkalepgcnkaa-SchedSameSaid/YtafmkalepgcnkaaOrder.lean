/-
  Layer 31, the plain law of the order: what compares two paths, and what a stable merge makes of two sorted rows. No program in sight.
-/
import Derived.Sort.LotA
namespace Go.Proofs.Ytafmkalepgcnkaa
open Go.Sort

/-- A path, as it is told. -/
structure Ch where
  id : Int
  prio : Int
  cost : Int
  room : Bool
/-- A path, and where it was told. -/
structure Pl where
  ch : Ch
  pos : Int
instance : Inhabited Ch := ⟨⟨0, 0, 0, false⟩⟩
instance : Inhabited Pl := ⟨⟨⟨0, 0, 0, false⟩, 0⟩⟩

/-- What two numbers are to each other. -/
def cmpI (a b : Int) : Int := if a < b then -1 else if b < a then 1 else 0
/-- What two paths are to each other. -/
def cmpC (x y : Ch) : Int := if cmpI x.prio y.prio ≠ 0 then cmpI x.prio y.prio else if cmpI x.cost y.cost ≠ 0 then cmpI x.cost y.cost else cmpI x.id y.id
/-- Is the first one better? -/
def bet (x y : Ch) : Bool := decide (cmpC x y < 0)
def cmpP (x y : Pl) : Int := cmpC x.ch y.ch
theorem cmpI_lt {a b : Int} : cmpI a b < 0 ↔ a < b := by unfold cmpI; split <;> (try split) <;> omega
theorem cmpI_ne {a b : Int} : cmpI a b ≠ 0 ↔ a ≠ b := by unfold cmpI; split <;> (try split) <;> omega
theorem cmpC_lt (x y : Ch) : cmpC x y < 0 ↔ x.prio < y.prio ∨ (x.prio = y.prio ∧ (x.cost < y.cost ∨ (x.cost = y.cost ∧ x.id < y.id))) := by
  unfold cmpC
  by_cases h1 : x.prio = y.prio
  · rw [if_neg (by rw [cmpI_ne]; omega)]
    by_cases h2 : x.cost = y.cost
    · rw [if_neg (by rw [cmpI_ne]; omega), cmpI_lt]; omega
    · rw [if_pos (by rw [cmpI_ne]; omega), cmpI_lt]; omega
  · rw [if_pos (by rw [cmpI_ne]; omega), cmpI_lt]; omega
theorem bet_iff (x y : Ch) : bet x y = true ↔ x.prio < y.prio ∨ (x.prio = y.prio ∧ (x.cost < y.cost ∨ (x.cost = y.cost ∧ x.id < y.id))) := by
  unfold bet; rw [decide_eq_true_iff]; exact cmpC_lt x y

/-- The order of all: the better one first, of those that are alike the one that was told first. -/
def lt2 (x y : Pl) : Bool := bet x.ch y.ch || (!bet y.ch x.ch && decide (x.pos < y.pos))
theorem lt2_iff (x y : Pl) : lt2 x y = true ↔ x.ch.prio < y.ch.prio ∨ (x.ch.prio = y.ch.prio ∧ (x.ch.cost < y.ch.cost ∨ (x.ch.cost = y.ch.cost ∧ (x.ch.id < y.ch.id ∨ (x.ch.id = y.ch.id ∧ x.pos < y.pos))))) := by
  have h1 := bet_iff x.ch y.ch
  have h2 := bet_iff y.ch x.ch
  unfold lt2
  rw [Bool.or_eq_true, Bool.and_eq_true, Bool.not_eq_true', decide_eq_true_iff, h1]
  cases hb : bet y.ch x.ch
  · rw [hb] at h2
    have h3 : ¬ (y.ch.prio < x.ch.prio ∨ (y.ch.prio = x.ch.prio ∧ (y.ch.cost < x.ch.cost ∨ (y.ch.cost = x.ch.cost ∧ y.ch.id < x.ch.id)))) := fun h => by have := h2.2 h; cases this
    simp only [true_and]
    omega
  · have h3 := h2.1 hb
    simp only [Bool.true_eq_false, false_and, or_false]
    omega
theorem lt2_false (x y : Pl) : lt2 x y = false ↔ ¬ (x.ch.prio < y.ch.prio ∨ (x.ch.prio = y.ch.prio ∧ (x.ch.cost < y.ch.cost ∨ (x.ch.cost = y.ch.cost ∧ (x.ch.id < y.ch.id ∨ (x.ch.id = y.ch.id ∧ x.pos < y.pos)))))) := by
  rw [← lt2_iff, Bool.not_eq_true]
theorem lt2_swo : SWO lt2 where
  irrefl x := by rw [lt2_false]; omega
  trans x y z h1 h2 := by rw [lt2_iff] at *; omega
  ntrans x y z h1 h2 := by rw [lt2_false] at *; omega
/-- Of two the later told one is less just if it is better. -/
theorem lt2_agree (x y : Pl) (h : y.pos < x.pos) : bet x.ch y.ch = lt2 x y := by
  rw [Bool.eq_iff_iff, bet_iff, lt2_iff]; omega
theorem lt2_total (x y : Pl) (h : x.pos ≠ y.pos) (hn : lt2 y x = false) : lt2 x y = true := by
  rw [lt2_false] at hn; rw [lt2_iff]; omega
theorem lt2_of_le_lt {x y z : Pl} (h1 : lt2 y x = false) (h2 : lt2 y z = true) : lt2 x z = true := by
  cases h : lt2 x z
  · have := lt2_swo.ntrans y x z h1 h; rw [h2] at this; cases this
  · rfl
theorem lt2_of_lt_le {x y z : Pl} (h1 : lt2 x y = true) (h2 : lt2 z y = false) : lt2 x z = true := by
  cases h : lt2 x z
  · have := lt2_swo.ntrans x z y h h2; rw [h1] at this; cases this
  · rfl
theorem lt2_asymm {x y : Pl} (h : lt2 x y = true) : lt2 y x = false := lt2_swo.asymmA h

/-- The comparison as the program's sort has it. -/
def ltP (x y : Pl) : Bool := decide (cmpP x y < 0)
theorem ltP_bet (x y : Pl) : ltP x y = bet x.ch y.ch := rfl

/-! ### The insertion sort of a row told in order -/
/-- From place i on each one was told behind all ahead of it, from a on. -/
def Asc (a i b : Nat) (d : Array Pl) : Prop := ∀ p q, a ≤ p → p < q → i ≤ q → q < b → d[p]!.pos < d[q]!.pos

theorem insInner_perm (lt : Pl → Pl → Bool) (a : Nat) : ∀ (j : Nat) (d : Array Pl), a ≤ j → j < d.size → PermIn a (j + 1) d (insInner lt a j d)
  | 0, d, _, _ => permIn_refl d a 1
  | j + 1, d, haj, hj => by
    unfold insInner
    split
    · rename_i hc
      simp only [Bool.and_eq_true, decide_eq_true_eq] at hc
      have h1 := swp_permIn d a (j + 2) (j + 1) j haj (by omega) (by omega) (by omega) (by omega)
      have h2 := insInner_perm lt a j (swp d (j + 1) j) (by omega) (by rw [swp_size]; omega)
      exact permIn_trans _ _ _ a (j + 2) h1 (permIn_mono _ _ a (j + 1) a (j + 2) (Nat.le_refl _) (by omega) (by rw [swp_size]; omega) h2)
    · exact permIn_refl d a _
theorem insInner_same (a : Nat) : ∀ (j : Nat) (d : Array Pl), j < d.size → (∀ p, a ≤ p → p < j → d[p]!.pos < d[j]!.pos) → insInner ltP a j d = insInner lt2 a j d
  | 0, d, _, _ => rfl
  | j + 1, d, hj, h => by
    unfold insInner
    by_cases ha : a < j + 1
    · have e : ltP d[j + 1]! d[j]! = lt2 d[j + 1]! d[j]! := lt2_agree _ _ (h j (by omega) (by omega))
      rw [e]
      have hg := fun k => swp_get d (i := j + 1) (j := j) hj (by omega) k
      have ih := insInner_same a j (swp d (j + 1) j) (by rw [swp_size]; omega) (fun p hp hpj => by
        rw [hg, hg, if_neg (by omega), if_neg (by omega), if_pos rfl]; exact h p hp (by omega))
      rw [ih]
    · have : decide (j + 1 > a) = false := decide_eq_false (by omega)
      simp [this]
theorem insOuter_same (a b : Nat) : ∀ (n i : Nat) (d : Array Pl), b - i = n → a ≤ i → b ≤ d.size → Asc a i b d → insOuter ltP a b i d = insOuter lt2 a b i d
  | 0, i, d, hn, _, _, _ => by rw [insOuter.eq_def ltP, insOuter.eq_def lt2, if_neg (by omega), if_neg (by omega)]
  | n + 1, i, d, hn, hai, hb, hA => by
    have hlt : i < b := by omega
    rw [insOuter.eq_def ltP, insOuter.eq_def lt2, if_pos hlt, if_pos hlt, insInner_same a i d (by omega) (fun p hp hpi => hA p i hp hpi (Nat.le_refl _) hlt)]
    have hp := insInner_perm lt2 a i d hai (by omega)
    refine insOuter_same a b n (i + 1) _ (by omega) (by omega) (by rw [hp.1]; exact hb) (fun p q hap hpq hiq hqb => ?_)
    rw [hp.2.1 q (by omega)]
    by_cases hpi : p < i + 1
    · exact permIn_all d _ a (i + 1) (fun x => x.pos < d[q]!.pos) (by omega) hp (fun k hk hki => hA k q hk (by omega) (by omega) hqb) p hap hpi
    · rw [hp.2.1 p (by omega)]; exact hA p q hap hpq (by omega) hqb
/-- A row told in order: the program's insertion sort lays it as the order of all says. -/
theorem ins_sorts (a b : Nat) (d : Array Pl) (hab : a ≤ b) (hb : b ≤ d.size) (hA : Asc a a b d) : PermIn a b d (insertionSort ltP d a b) ∧ SortedIn lt2 a b (insertionSort ltP d a b) := by
  have e : insertionSort ltP d a b = insertionSort lt2 d a b := insOuter_same a b _ (a + 1) d rfl (by omega) hb (fun p q h1 h2 h3 h4 => hA p q h1 h2 (by omega) h4)
  rw [e]
  exact insertionSort_holds lt2_swo d a b hab hb

/-! ### Rows moved: exchanges side by side -/
/-- n places from a on exchanged with those from b on. -/
def swapR (d : Array Pl) (a b : Nat) : Nat → Array Pl
  | 0 => d
  | n + 1 => swp (swapR d a b n) (a + n) (b + n)
theorem swapR_size (d : Array Pl) (a b : Nat) : ∀ n, (swapR d a b n).size = d.size
  | 0 => rfl
  | n + 1 => by rw [swapR, swp_size, swapR_size d a b n]
theorem swapR_get (d : Array Pl) (a b : Nat) : ∀ n, a + n ≤ b → b + n ≤ d.size → ∀ x, (swapR d a b n)[x]! = if a ≤ x ∧ x < a + n then d[x + (b - a)]! else if b ≤ x ∧ x < b + n then d[x - (b - a)]! else d[x]!
  | 0, _, _, x => by rw [if_neg (by omega), if_neg (by omega)]; rfl
  | n + 1, h1, h2, x => by
    have ih := swapR_get d a b n (by omega) (by omega)
    have hs := swapR_size d a b n
    rw [swapR, swp_get _ (by omega) (by omega), ih, ih, ih]
    (repeat' split) <;> first | rfl | (exfalso; omega) | (congr 1; omega)
theorem swapR_perm (d : Array Pl) (a b : Nat) : ∀ n, a + n ≤ b → b + n ≤ d.size → PermIn a (b + n) d (swapR d a b n)
  | 0, h1, h2 => permIn_refl d a _
  | n + 1, h1, h2 => by
    have hs := swapR_size d a b n
    have ih := permIn_mono _ _ a (b + n) a (b + (n + 1)) (Nat.le_refl _) (by omega) h2 (swapR_perm d a b n (by omega) (by omega))
    exact permIn_trans _ _ _ a (b + (n + 1)) ih (swp_permIn _ a (b + (n + 1)) (a + n) (b + n) (by omega) (by omega) (by omega) (by omega) (by omega))

/-- d' is d with [lo, m) and [m, hi) having changed places. -/
structure Rot (d : Array Pl) (lo m hi : Nat) (d' : Array Pl) : Prop where
  perm : PermIn lo hi d d'
  left : ∀ x, lo ≤ x → x < lo + (hi - m) → d'[x]! = d[x + (m - lo)]!
  right : ∀ x, lo + (hi - m) ≤ x → x < hi → d'[x]! = d[x - (hi - m)]!

/-- Both alike long: one exchange. -/
theorem Rot.even {d : Array Pl} {m i : Nat} (h1 : i ≤ m) (h2 : m + i ≤ d.size) : Rot d (m - i) m (m + i) (swapR d (m - i) m i) := by
  have g := swapR_get d (m - i) m i (by omega) h2
  refine ⟨swapR_perm d (m - i) m i (by omega) h2, fun x hx1 hx2 => ?_, fun x hx1 hx2 => ?_⟩
  · rw [g, if_pos (by omega)]
  · rw [g, if_neg (by omega), if_pos (by omega)]; congr 1; omega
/-- The left one is longer: its first part changes places with the right one, then the rest. -/
theorem Rot.more {d d' : Array Pl} {m i j : Nat} (h1 : i ≤ m) (h2 : m + j ≤ d.size) (hij : j < i) (h : Rot (swapR d (m - i) m j) (m - (i - j)) m (m + j) d') : Rot d (m - i) m (m + j) d' := by
  have g := swapR_get d (m - i) m j (by omega) h2
  have hp := swapR_perm d (m - i) m j (by omega) h2
  refine ⟨permIn_trans _ _ _ (m - i) (m + j) hp (permIn_mono _ _ (m - (i - j)) (m + j) (m - i) (m + j) (by omega) (Nat.le_refl _) (by rw [swapR_size]; exact h2) h.perm), fun x hx1 hx2 => ?_, fun x hx1 hx2 => ?_⟩
  · rw [h.perm.2.1 x (by omega), g, if_pos (by omega)]
  · by_cases hx3 : x < m - (i - j) + (m + j - m)
    · rw [h.left x (by omega) hx3, g, if_neg (by omega), if_pos (by omega)]; congr 1; omega
    · rw [h.right x (by omega) hx2, g, if_neg (by omega), if_neg (by omega)]
/-- The right one is longer: the left one changes places with its last part, then the rest. -/
theorem Rot.less {d d' : Array Pl} {m i j : Nat} (h1 : i ≤ m) (h2 : m + j ≤ d.size) (hij : i < j) (h : Rot (swapR d (m - i) (m + j - i) i) (m - i) m (m + (j - i)) d') : Rot d (m - i) m (m + j) d' := by
  have g := swapR_get d (m - i) (m + j - i) i (by omega) (by omega)
  have hp := swapR_perm d (m - i) (m + j - i) i (by omega) (by omega)
  rw [show m + j - i + i = m + j by omega] at hp
  refine ⟨permIn_trans _ _ _ (m - i) (m + j) hp (permIn_mono _ _ (m - i) (m + (j - i)) (m - i) (m + j) (Nat.le_refl _) (by omega) (by rw [swapR_size]; exact h2) h.perm), fun x hx1 hx2 => ?_, fun x hx1 hx2 => ?_⟩
  · by_cases hx3 : x < m - i + (m + (j - i) - m)
    · rw [h.left x (by omega) hx3, g, if_neg (by omega), if_neg (by omega)]
    · rw [h.right x (by omega) (by omega), g, if_pos (by omega)]; congr 1; omega
  · rw [h.perm.2.1 x (by omega), g, if_neg (by omega), if_pos (by omega)]; congr 1; omega
/-- One of the two has nothing: nothing moves. -/
theorem Rot.none {d : Array Pl} {lo m hi : Nat} (h1 : lo ≤ m) (h2 : m ≤ hi) (h : lo = m ∨ m = hi) : Rot d lo m hi d := by
  refine ⟨permIn_refl d _ _, fun x hx1 hx2 => ?_, fun x hx1 hx2 => ?_⟩
  · rcases h with rfl | rfl
    · rw [Nat.sub_self, Nat.add_zero]
    · omega
  · rcases h with rfl | rfl
    · omega
    · rw [Nat.sub_self, Nat.sub_zero]

/-- The first of a row is carried up c places. -/
def upR (d : Array Pl) (a : Nat) : Nat → Array Pl
  | 0 => d
  | c + 1 => swp (upR d a c) (a + c) (a + c + 1)
theorem upR_size (d : Array Pl) (a : Nat) : ∀ c, (upR d a c).size = d.size
  | 0 => rfl
  | c + 1 => by rw [upR, swp_size, upR_size d a c]
theorem upR_get (d : Array Pl) (a : Nat) : ∀ c, a + c < d.size → ∀ x, (upR d a c)[x]! = if a ≤ x ∧ x < a + c then d[x + 1]! else if x = a + c then d[a]! else d[x]!
  | 0, _, x => by
    rw [if_neg (by omega)]
    by_cases hx : x = a + 0
    · rw [if_pos hx, hx]; rfl
    · rw [if_neg hx]; rfl
  | c + 1, h, x => by
    have ih := upR_get d a c (by omega)
    have hs := upR_size d a c
    rw [upR, swp_get _ (by omega) (by omega), ih, ih, ih]
    (repeat' split) <;> first | rfl | (exfalso; omega) | (congr 1; omega)
theorem upR_perm (d : Array Pl) (a b : Nat) : ∀ c, a + c < b → b ≤ d.size → PermIn a b d (upR d a c)
  | 0, _, _ => permIn_refl d a b
  | c + 1, h1, h2 => by
    have hs := upR_size d a c
    exact permIn_trans _ _ _ a b (upR_perm d a b c (by omega) h2) (swp_permIn _ a b (a + c) (a + c + 1) (by omega) (by omega) (by omega) (by omega) (by omega))

/-- What lies at m is carried down c places. -/
def downR (d : Array Pl) (m : Nat) : Nat → Array Pl
  | 0 => d
  | c + 1 => swp (downR d m c) (m - c) (m - c - 1)
theorem downR_size (d : Array Pl) (m : Nat) : ∀ c, (downR d m c).size = d.size
  | 0 => rfl
  | c + 1 => by rw [downR, swp_size, downR_size d m c]
theorem downR_get (d : Array Pl) (m : Nat) : ∀ c, c ≤ m → m < d.size → ∀ x, (downR d m c)[x]! = if x = m - c then d[m]! else if m - c < x ∧ x ≤ m then d[x - 1]! else d[x]!
  | 0, _, _, x => by
    by_cases hx : x = m - 0
    · rw [if_pos hx, hx]; rfl
    · rw [if_neg hx, if_neg (by omega)]; rfl
  | c + 1, h, h2, x => by
    have ih := downR_get d m c (by omega) h2
    have hs := downR_size d m c
    rw [downR, swp_get _ (by omega) (by omega), ih, ih, ih]
    (repeat' split) <;> first | rfl | (exfalso; omega) | (congr 1; omega)
theorem downR_perm (d : Array Pl) (a b m : Nat) : ∀ c, a + c ≤ m → m < b → b ≤ d.size → PermIn a b d (downR d m c)
  | 0, _, _, _ => permIn_refl d a b
  | c + 1, h1, h2, h3 => by
    have hs := downR_size d m c
    exact permIn_trans _ _ _ a b (downR_perm d a b m c (by omega) h2 h3) (swp_permIn _ a b (m - c) (m - c - 1) (by omega) (by omega) (by omega) (by omega) (by omega))

end Go.Proofs.Ytafmkalepgcnkaa
