/-
  The law SchedSame, walked.
-/
import Derived.Test.YtafmkalepgcnkaaTurned
namespace Go.Proofs.Ytafmkalepgcnkaa
open Go.RowKit Go.Sort

theorem unlike_of (l : List Ch) (h : ∀ (i k : Nat) (x y : Ch), k < i → l[i]? = some x → l[k]? = some y → x.id ≠ y.id) : Unlike l := by
  unfold Unlike
  rw [List.pairwise_iff_getElem]
  intro i j hi hj hij
  exact fun e => h j i _ _ hij (List.getElem?_eq_getElem hj) (List.getElem?_eq_getElem hi) e.symm

theorem turn_at (turn : Int) (n : Nat) (h0 : 0 < n) (hn : n ≤ 100) : ∃ N : Nat, wrap64 ((IntKind.u64.wrap turn).tmod (n : Int)) = (N : Int) ∧ N < n := by
  have hu : 0 ≤ IntKind.u64.wrap turn := by
    rw [IntKind.wrap_u64]; omega
  have e : (IntKind.u64.wrap turn).tmod (n : Int) = (IntKind.u64.wrap turn) % (n : Int) := Int.tmod_eq_emod_of_nonneg hu
  have h1 := Int.emod_nonneg (IntKind.u64.wrap turn) (show (n : Int) ≠ 0 by omega)
  have h2 := Int.emod_lt_of_pos (IntKind.u64.wrap turn) (show (0 : Int) < n by omega)
  rw [e]
  refine ⟨((IntKind.u64.wrap turn) % (n : Int)).toNat, ?_, by omega⟩
  unfold wrap64
  omega

set_option maxHeartbeats 8000000 in
set_option maxRecDepth 100000 in
theorem same_any (g : Option Addr) (c : Nat) (l : List Ch) (turn : Int) (w : World) (h : ChIn w g l) :
    Calls Try.prog 8 #[.slice g l.length c, .int .i64 turn] w fun e w' => e = .returned (.bool true) ∧ Below w.heap.size w w' := by
  by_cases h40 : 40 < l.length
  · have h40z : (40 : Int) < (l.length : Int) := by omega
    clear h
    go_enter Try.func8, Try.ntmps8
    go_wp2_with (go_at_call 32; refine (works31 _).mono ?_; rintro e w1 ⟨rfl, hb⟩)
    go_ret
    exact ⟨rfl, hb⟩
  · have h40z : (l.length : Int) ≤ 40 := by omega
    by_cases hl0 : l.length = 0
    · obtain rfl : l = [] := List.length_eq_zero_iff.1 hl0
      clear h h40 h40z hl0
      go_enter Try.func8, Try.ntmps8
      go_wp2_with (go_at_call 32; refine (works31 _).mono ?_; rintro e w1 ⟨rfl, hb⟩)
      go_ret
      exact ⟨rfl, hb⟩
    · have hl0z : (0 : Int) < (l.length : Int) := by omega
      have hl0b : ((l.length : Int) == 0) = false := by rw [beq_eq_false_iff_ne]; omega
      have hl0n : 0 < l.length := by omega
      obtain ⟨i0, hi, hz0, hz1, hz2⟩ := info_parts Try.info57
      have hln : l.length ≤ 60 := by omega
      have HSL := Lib.hid (srt_length l)
      obtain ⟨bl, ol, rfl⟩ := h.some hl0n
      clear h40 hl0
      go_enter Try.func8, Try.ntmps8
      go_wp2_with fail
      refine (works31 _).mono ?_
      rintro e w1 ⟨rfl, hb1⟩
      have hC := h.later hb1
      clear h
      go_wp2_with fail
      go_loopw [5] (fun t wr => ∃ i : Nat, i ≤ l.length ∧ t = .int .i64 i ∧ Hid (∀ a k (x y : Ch), a < i → k < a → l[a]? = some x → l[k]? = some y → x.id ≠ y.id) ∧ Below w1.heap.size w1 wr) (fun t _ => l.length - (intOf t).toNat)
      case atStart => exact ⟨0, Nat.zero_le _, rfl, Lib.hid (fun a k x y ha => by omega), Below.refl _ _⟩
      case round =>
        obtain ⟨i, hil, rfl, HA, hb⟩ := hrel
        have hsz := hb.size
        by_cases hlt : i < l.length
        · have hltz : (i : Int) < (l.length : Int) := by omega
          obtain ⟨wo, rfl⟩ : ∃ wo : World, wo = wr := ⟨_, rfl⟩
          obtain ⟨chi, hci⟩ : ∃ ch, l[i]? = Option.some ch := ⟨_, List.getElem?_eq_getElem hlt⟩
          obtain ⟨i1, p1, q1, r1⟩ := chi
          have HCI := Lib.hid hci
          clear hci
          go_wp2_with fail
          go_loopw [6] (fun t wr => ∃ k : Nat, k ≤ i ∧ t = .int .i64 k ∧ Hid (∀ a (y : Ch), a < k → l[a]? = some y → i1 ≠ y.id) ∧ Below w1.heap.size w1 wr) (fun t _ => i - (intOf t).toNat)
          case atStart => exact ⟨0, Nat.zero_le _, rfl, Lib.hid (fun a y ha => by omega), hb⟩
          case round =>
            clear hb hsz
            obtain ⟨k, hki, rfl, HK, hb⟩ := hrel
            have hsz := hb.size
            by_cases hlt2 : k < i
            · have hlt2z : (k : Int) < (i : Int) := by omega
              have hkl : k < l.length := by omega
              have hklz : (k : Int) < (l.length : Int) := by omega
              obtain ⟨chk, hck⟩ : ∃ ch, l[k]? = Option.some ch := ⟨_, List.getElem?_eq_getElem hkl⟩
              obtain ⟨i2, p2, q2, r2⟩ := chk
              obtain ⟨_, d0, _, _, _⟩ := (hC.later hb).cellsAt HCI.out
              obtain ⟨_, e0, _, _, _⟩ := (hC.later hb).cellsAt hck
              have HCK := Lib.hid hck
              clear hck
              by_cases he : i1 = i2
              · have he' : (i1 == i2) = true := by rw [beq_iff_eq]; exact he
                clear he HA HK HCK HCI
                go_wp2_with fail
                go_quiet (fail)
                go_wp2
                go_ret
                exact ⟨rfl, hb1.trans ((below_drewN _ hb).mono hb1.size)⟩
              · have he' : (i1 == i2) = false := by rw [beq_eq_false_iff_ne]; exact he
                have HK2 : Hid (∀ a (y : Ch), a < k + 1 → l[a]? = some y → i1 ≠ y.id) := Lib.hid (fun a y ha hy => by
                  by_cases e : a = k
                  · subst e; rw [HCK.out] at hy; cases hy; exact he
                  · exact HK.out a y (by omega) hy)
                clear he HK HCK
                go_wp2_with fail
                go_quiet (fail)
                go_wp2
                go_roundw
                case rel => exact ⟨k + 1, by omega, by go_num, HK2, below_drewN _ hb⟩
                case measure => simp [intOf]; omega
            · obtain rfl : k = i := by omega
              have HA2 : Hid (∀ a k' (x y : Ch), a < k + 1 → k' < a → l[a]? = some x → l[k']? = some y → x.id ≠ y.id) := Lib.hid (fun a k' x y ha hk hx hy => by
                by_cases e : a = k
                · subst e; rw [HCI.out] at hx; cases hx; exact HK.out k' y hk hy
                · exact HA.out a k' x y (by omega) hk hx hy)
              clear HA HK HCI
              go_wp2
              go_roundw
              case rel => exact ⟨k + 1, by omega, by go_num, HA2, hb⟩
              case measure => simp [intOf]; omega
        · obtain rfl : i = l.length := by omega
          have HUN : Hid (Unlike l) := Lib.hid (unlike_of l fun i k x y hk hx hy => HA.out i k x y (List.getElem?_eq_some_iff.1 hx).1 hk hx hy)
          clear HA hlt hil
          go_wp2_with fail
          obtain ⟨N, hN, hNl⟩ := turn_at turn l.length hl0n (by omega)
          rw [hN]
          clear hN
          have hNz : (N : Int) < (l.length : Int) := by omega
          have hCW := hC.later hb
          have hBW := hb1.trans (hb.mono hb1.size)
          have hMlen := turned_length l N
          have HML := Lib.hid hMlen
          have HLOW := Lib.hid (fun t (ht : t < l.length - N) => turned_low l N t ht)
          have HHIGH := Lib.hid (fun j (hj : j < N) => turned_high l N j (by omega) hj)
          have HSAME := Lib.hid (turned_same l N HUN.out)
          generalize turned l N = M at *
          obtain ⟨wB, rfl⟩ : ∃ wB : World, wB = wr := ⟨_, rfl⟩
          clear hb hsz hC HUN hMlen
          go_loopw [8, 9] (fun v t wr => ∃ (i q : Nat), i ≤ l.length ∧ Hid (i = N + q) ∧ t = .int .i64 i ∧ wr.ownsRow wB.heap.size 57 4 v q (chsV (M.take q)) ∧ Below wB.heap.size wB wr) (fun _ t _ => l.length - (intOf t).toNat)
          case atStart => exact ⟨N, 0, by omega, Lib.hid rfl, rfl, World.ownsRow_nil _ _ _ _, Below.refl _ _⟩
          case round =>
            obtain ⟨i, q, hil, HIQ, rfl, hown, hb⟩ := hrel
            have hsz := hb.size
            by_cases hlt : i < l.length
            · have hltz : (i : Int) < (l.length : Int) := by omega
              have hqi : i = N + q := HIQ.out
              obtain ⟨chi, hci⟩ : ∃ ch, l[i]? = Option.some ch := ⟨_, List.getElem?_eq_getElem hlt⟩
              obtain ⟨i1, p1, q1, r1⟩ := chi
              obtain ⟨_, d0, d1, d2, d3⟩ := (hCW.later hb).cellsAt hci
              have HMQ : Hid (M.take (q + 1) = M.take q ++ [⟨i1, p1, q1, r1⟩]) := Lib.hid (by
                rw [List.take_add_one, HLOW.out q (by omega), ← hqi, hci]; rfl)
              have hq40 : q < 60 := by omega
              clear hci hqi
              go_wp2_with (at_builtin; refine wpList_append_own _ rfl _ _ 55 rfl wB.heap.size 57 i0 (.agg #[.int .i64 0, .int .i64 0, .int .i64 0, .bool false]) 4 32 Try.underlying55 hi hz0 hz1 hz2 rfl (by decide) _ _ _ rfl (hown.alloc _) ⟨wr.heap.size, 0, none⟩ 1 1 [.int .i64 i1, .int .i64 p1, .int .i64 q1, .bool r1] rfl rfl ?k1 ?k2 ?k3 ?k4 ?k5 ?_)
              case k1 =>
                intro j u hj
                match j, hj with
                | 0, hj => simp at hj; subst hj; simp [Addr.add]
                | 1, hj => simp at hj; subst hj; simp [Addr.add]
                | 2, hj => simp at hj; subst hj; simp [Addr.add]
                | 3, hj => simp at hj; subst hj; simp [Addr.add]
              case k2 => intro u hu; simp at hu; rcases hu with rfl | rfl | rfl | rfl <;> rfl
              case k3 => unfold maxLen; omega
              case k4 => omega
              case k5 => simp; omega
              intro v' w3 hown' hgrow _
              have hb3 := (hb.alloc hsz (.cells #[.int .i64 i1, .int .i64 p1, .int .i64 q1, .bool r1] 57)).grown hgrow (by simp; omega) (fun j hj => (hown.lt j hj).1)
              have HIQ2 : Hid (i + 1 = N + (q + 1)) := Lib.hid (by have := HIQ.out; omega)
              clear hown hgrow hb d0 d1 d2 d3 HIQ
              go_wp2
              go_roundw
              case rel => exact ⟨i + 1, q + 1, by omega, HIQ2, by go_num, by rw [HMQ.out, chsV_snoc]; exact hown', hb3⟩
              case measure => simp [intOf]; omega
            · obtain rfl : i = l.length := by omega
              have hqe : q = l.length - N := by have := HIQ.out; omega
              clear HIQ hlt hil HLOW
              go_wp2_with fail
              obtain ⟨wC, rfl⟩ : ∃ wC : World, wC = wr := ⟨_, rfl⟩
              go_loopw [8, 10] (fun v t wr => ∃ (j qj : Nat) (z : Int), j ≤ N ∧ t = .int .i64 z ∧ Hid (z = (N : Int) - 1 - j) ∧ Hid (qj = l.length - N + j) ∧ wr.ownsRow wB.heap.size 57 4 v qj (chsV (M.take qj)) ∧ Below wB.heap.size wB wr) (fun _ t _ => (intOf t + 1).toNat)
              case atStart => exact ⟨0, q, (N : Int) - 1, Nat.zero_le _, rfl, Lib.hid (by omega), Lib.hid (by omega), hown, hb⟩
              case round =>
                clear hown hb hsz hqe
                obtain ⟨j, qj, z, hj, rfl, HZ, HQ, hown, hb⟩ := hrel
                have hsz := hb.size
                by_cases hjn : j < N
                · obtain ⟨ii, hii⟩ : ∃ ii : Nat, N - 1 - j = ii := ⟨_, rfl⟩
                  have hz : z = (ii : Int) := by have := HZ.out; omega
                  subst hz
                  have hil : ii < l.length := by omega
                  have hilz : (ii : Int) < (l.length : Int) := by omega
                  have hi0 : (0 : Int) ≤ (ii : Int) := by omega
                  have hi40 : (ii : Int) ≤ 40 := by omega
                  obtain ⟨chi, hci⟩ : ∃ ch, l[ii]? = Option.some ch := ⟨_, List.getElem?_eq_getElem hil⟩
                  obtain ⟨i1, p1, q1, r1⟩ := chi
                  obtain ⟨_, d0, d1, d2, d3⟩ := (hCW.later hb).cellsAt hci
                  have HMQ : Hid (M.take (qj + 1) = M.take qj ++ [⟨i1, p1, q1, r1⟩]) := Lib.hid (by
                    rw [List.take_add_one, HQ.out, HHIGH.out j hjn, hii, hci]; rfl)
                  have hq40 : qj < 60 := by have := HQ.out; omega
                  have HQ2 : Hid (qj + 1 = l.length - N + (j + 1)) := Lib.hid (by have := HQ.out; omega)
                  have HZ2 : Hid ((ii : Int) - 1 = (N : Int) - 1 - ((j + 1 : Nat) : Int)) := Lib.hid (by omega)
                  clear hci hii HQ HZ
                  go_wp2_with (at_builtin; refine wpList_append_own _ rfl _ _ 55 rfl wB.heap.size 57 i0 (.agg #[.int .i64 0, .int .i64 0, .int .i64 0, .bool false]) 4 32 Try.underlying55 hi hz0 hz1 hz2 rfl (by decide) _ _ _ rfl (hown.alloc _) ⟨wr.heap.size, 0, none⟩ 1 1 [.int .i64 i1, .int .i64 p1, .int .i64 q1, .bool r1] rfl rfl ?m1 ?m2 ?m3 ?m4 ?m5 ?_)
                  case m1 =>
                    intro j u hj
                    match j, hj with
                    | 0, hj => simp at hj; subst hj; simp [Addr.add]
                    | 1, hj => simp at hj; subst hj; simp [Addr.add]
                    | 2, hj => simp at hj; subst hj; simp [Addr.add]
                    | 3, hj => simp at hj; subst hj; simp [Addr.add]
                  case m2 => intro u hu; simp at hu; rcases hu with rfl | rfl | rfl | rfl <;> rfl
                  case m3 => unfold maxLen; omega
                  case m4 => omega
                  case m5 => simp; omega
                  intro v' w3 hown' hgrow _
                  have hb3 := (hb.alloc hsz (.cells #[.int .i64 i1, .int .i64 p1, .int .i64 q1, .bool r1] 57)).grown hgrow (by simp; omega) (fun j hj => (hown.lt j hj).1)
                  clear hown hgrow hb d0 d1 d2 d3
                  go_wp2
                  go_roundw
                  case rel => exact ⟨j + 1, qj + 1, (ii : Int) - 1, by omega, rfl, HZ2, HQ2, by rw [HMQ.out, chsV_snoc]; exact hown', hb3⟩
                  case measure => (simp [intOf]) <;> omega
                · obtain rfl : j = N := by omega
                  have hz : z = -1 := by have := HZ.out; omega
                  subst hz
                  have hqe : qj = M.length := by have := HQ.out; rw [HML.out]; omega
                  subst hqe
                  rw [List.take_length] at hown
                  obtain ⟨gm, cm, rfl⟩ := own_slice57 hown
                  have hCM := (owns_chs hown).2
                  have hCL := hCW.later hb
                  have hw := hBW.trans (hb.mono hBW.size)
                  have hMn : M.length ≤ 60 := by rw [HML.out]; exact hln
                  have hMz : (M.length : Int) ≤ 60 := by omega
                  obtain ⟨pv, hpv⟩ : ∃ pv, pick (srt l) = pv := ⟨_, rfl⟩
                  obtain ⟨L, hL⟩ : ∃ L, ids (srt l) = L := ⟨_, rfl⟩
                  have hLl : L.length = l.length := by rw [← hL, ids, List.length_map, HSL.out]
                  have HP1 := Lib.hid (fun W (hc : ChIn W (some ⟨bl, ol, none⟩) l) => pick_any (some ⟨bl, ol, none⟩) c l W hc hln)
                  have HP2 := Lib.hid (fun W (hc : ChIn W gm M) => pick_any gm cm M W hc hMn)
                  have HO1 := Lib.hid (fun W (hc : ChIn W (some ⟨bl, ol, none⟩) l) => order_any (some ⟨bl, ol, none⟩) c l W hc hln)
                  have HO2 := Lib.hid (fun W (hc : ChIn W gm M) => order_any gm cm M W hc hMn)
                  rw [HSAME.out.2, hpv] at HP2
                  rw [hpv] at HP1
                  rw [HSAME.out.1, hL] at HO2
                  rw [hL] at HO1
                  obtain ⟨idv, isv⟩ := pv
                  simp only at HP1 HP2
                  have HLL := Lib.hid hLl
                  have HLM : Hid (L.length = M.length) := Lib.hid (by rw [hLl, HML.out])
                  have hLb : L.length ≤ 9223372036854775807 := by omega
                  have e1 : (idv == idv) = true := by simp
                  have e2 : (isv == isv) = true := by simp
                  clear hpv hL hLl hown hb hCW hBW HHIGH HSAME HQ HZ hsz HML HSL hjn hj
                  go_wp2_with fail
                  refine Calls.mono (P := Try.prog) (HP1.out _ hCL) ?_
                  rintro e w3 ⟨rfl, hb3⟩
                  have hCM3 := hCM.later hb3
                  have hCL3 := hCL.later hb3
                  have hw3 := hw.trans (hb3.mono hw.size)
                  clear hCM hCL hw hb3 HP1
                  go_wp2_with fail
                  refine Calls.mono (P := Try.prog) (HP2.out _ hCM3) ?_
                  rintro e w4 ⟨rfl, hb4⟩
                  have hCM4 := hCM3.later hb4
                  have hCL4 := hCL3.later hb4
                  have hw4 := hw3.trans (hb4.mono hw3.size)
                  clear hCM3 hCL3 hw3 hb4 HP2
                  go_wp2_with fail
                  refine Calls.mono (P := Try.prog) (HO1.out _ hCL4) ?_
                  rintro e w5 ⟨go, co, rfl, hown5, hb5⟩
                  have hr5 := Row3.of hown5
                  have hCM5 := hCM4.later hb5
                  have hw5 := hw4.trans (hb5.mono hw4.size)
                  clear hCM4 hCL4 hw4 hb5 hown5 HO1
                  go_wp2_with fail
                  refine Calls.mono (P := Try.prog) (HO2.out _ hCM5) ?_
                  rintro e w6 ⟨gq, cq, rfl, hown6, hb6⟩
                  have hr6 := Row3.of hown6
                  have hr56 := hr5.later hb6
                  have hw6 := hw5.trans (hb6.mono hw5.size)
                  clear hCM5 hr5 hw5 hb6 hown6 HO2
                  go_wp2_with fail
                  rw [← HLM.out, ← HLL.out]
                  refine (ints_same go gq co cq L _ hr56.row hr6.row hLb).mono ?_
                  rintro e w7 ⟨rfl, hb7⟩
                  have hw7 := hw6.trans (hb7.mono hw6.size)
                  go_wp2
                  go_ret
                  exact ⟨rfl, hw7⟩

end Go.Proofs.Ytafmkalepgcnkaa
