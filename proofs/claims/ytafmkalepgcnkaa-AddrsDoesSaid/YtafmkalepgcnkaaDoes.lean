/-
  The law AddrsDoes, walked.
-/
import Derived.Test.YtafmkalepgcnkaaDoesPre
namespace Go.Proofs.Ytafmkalepgcnkaa
open Go.RowKit

set_option maxRecDepth 100000 in
set_option maxHeartbeats 4000000 in
theorem does_any (g0 g1 g2 : Option Addr) (c0 c1 c2 : Nat) (os rs : List Int) (l : List St) (w : World) (h0 : RowIn w g0 os) (h1 : RowIn w g1 rs) (h2 : OpsArg w g2 l) :
    Calls Try.prog 6 #[.slice g0 os.length c0, .slice g1 rs.length c1, .slice g2 l.length c2] w fun e w' => e = .returned (.bool true) ∧ Below w.heap.size w w' := by
  by_cases hb2 : 200 < l.length
  · have hb2' : (200 : Int) < (l.length : Int) := by omega
    clear h0 h1 h2
    go_enter Try.func6, Try.ntmps6
    go_wp2_with (go_at_call 20; refine (works27 _).mono ?_; rintro e w1 ⟨rfl, hb⟩)
    go_ret
    exact ⟨rfl, hb⟩
  · have hb2' : (l.length : Int) ≤ 200 := by omega
    by_cases hb0 : 50 < os.length
    · have hb0' : (50 : Int) < (os.length : Int) := by omega
      clear h0 h1 h2
      go_enter Try.func6, Try.ntmps6
      go_wp2_with (go_at_call 20; refine (works27 _).mono ?_; rintro e w1 ⟨rfl, hb⟩)
      go_ret
      exact ⟨rfl, hb⟩
    · have hb0' : (os.length : Int) ≤ 50 := by omega
      by_cases hb1 : 50 < rs.length
      · have hb1' : (50 : Int) < (rs.length : Int) := by omega
        clear h0 h1 h2
        go_enter Try.func6, Try.ntmps6
        go_wp2_with (go_at_call 20; refine (works27 _).mono ?_; rintro e w1 ⟨rfl, hb⟩)
        go_ret
        exact ⟨rfl, hb⟩
      · have hb1' : (rs.length : Int) ≤ 50 := by omega
        go_enter Try.func6, Try.ntmps6
        go_wp2_with (go_at_call 20; refine (works27 _).mono ?_; rintro e w1 ⟨rfl, hb⟩)
        refine (new_any _ _ _ _ os rs _ (h0.later hb) (h1.later hb) (by omega) (by omega)).mono ?_
        rintro e w4 ⟨b, rfl, hbl, hT, hb4⟩
        have hlb : w.heap.size ≤ b := Nat.le_trans hb.size hbl
        have hw4 := hb.trans (hb4.mono hb.size)
        clear hb0 hb1 hb2
        clear hb4 hbl hb
        obtain ⟨O, hO⟩ : ∃ O, sFold os = O := ⟨_, rfl⟩
        obtain ⟨R, hR⟩ : ∃ R, sFold rs = R := ⟨_, rfl⟩
        rw [hO, hR] at hT
        have HO := Lib.hid hO
        have HR := Lib.hid hR
        clear hO hR
        go_wp2_with fail
        go_loopw [9, 11] (fun v t wr => ∃ (k : Nat) (g : Option Addr) (c : Nat) (xs : List Int), k ≤ os.length ∧ t = .int .i64 k ∧ v = .slice g xs.length c ∧ RowC wr g c xs ∧ Hid (Same xs (sFold (os.take k))) ∧ TabAt wr b O R ∧ Below w.heap.size w wr) (fun _ t _ => os.length - (intOf t).toNat)
        case atStart => exact ⟨0, none, 0, [], Nat.zero_le _, rfl, rfl, .inl ⟨rfl, rfl, rfl⟩, Lib.hid Same.zero, hT, hw4⟩
        case round =>
          clear hT hw4
          obtain ⟨k, g, c, xs, hk, rfl, rfl, hC, HS, hT, hb⟩ := hrel
          have hs := hb.size
          by_cases hlt : k < os.length
          · obtain ⟨bb, off, hg, hc1⟩ := (h0.later hb).get hlt
            obtain ⟨x, hx⟩ : ∃ x, os[k]?.getD 0 = x := ⟨_, rfl⟩
            rw [hx] at hc1
            have HX := Lib.hid hx
            clear hx
            have hlt' : (k : Int) < (os.length : Int) := by omega
            subst hg
            go_wp2_with fail
            refine (do_any g c xs 0 x false _ (by first | exact hC | exact hC.later ((Below.refl _ _).alloc (Nat.le_refl _) _)) HS.out.few).mono ?_
            rintro e w5 ⟨g', c', rfl, hC', hb5⟩
            have HS' : Hid (Same (dL xs 0 x) (sFold (os.take (k + 1)))) := Lib.hid (by rw [sFold_snoc _ _ hlt, HX.out]; exact HS.out.add 0 x (by decide))
            have hT' := hT.below hb5
            have hb' := hb.trans (hb5.mono hs)
            clear hT hb hC hb5 HS hc1 h0 h1 h2 hs
            go_wp2_with fail
            go_roundw
            case rel => exact ⟨k + 1, g', c', _, by omega, by go_num, rfl, hC', HS', hT', hb'⟩
            case measure => simp [intOf]; omega
          · obtain rfl : k = os.length := by omega
            rw [List.take_length, HO.out] at HS
            go_wp2_with fail
            go_loopw [10, 12] (fun v t wr => ∃ (k : Nat) (g' : Option Addr) (c' : Nat) (ys : List Int), k ≤ rs.length ∧ t = .int .i64 k ∧ v = .slice g' ys.length c' ∧ RowC wr g' c' ys ∧ Hid (Same ys (sFold (rs.take k))) ∧ RowC wr g c xs ∧ TabAt wr b O R ∧ Below w.heap.size w wr) (fun _ t _ => rs.length - (intOf t).toNat)
            case atStart => exact ⟨0, none, 0, [], Nat.zero_le _, rfl, rfl, .inl ⟨rfl, rfl, rfl⟩, Lib.hid Same.zero, hC, hT, hb⟩
            case round =>
              clear hT hb hC hs
              obtain ⟨k, g', c', ys, hk', rfl, rfl, hD, HS2, hC, hT, hb⟩ := hrel
              have hs := hb.size
              by_cases hlt2 : k < rs.length
              · obtain ⟨bb, off, hg, hc1⟩ := (h1.later hb).get hlt2
                obtain ⟨x, hx⟩ : ∃ x, rs[k]?.getD 0 = x := ⟨_, rfl⟩
                rw [hx] at hc1
                have HX := Lib.hid hx
                clear hx
                have hlt' : (k : Int) < (rs.length : Int) := by omega
                subst hg
                go_wp2_with fail
                refine (do_any g' c' ys 0 x false _ hD HS2.out.few).mono ?_
                rintro e w5 ⟨g5, c5, rfl, hD', hb5⟩
                have HS' : Hid (Same (dL ys 0 x) (sFold (rs.take (k + 1)))) := Lib.hid (by rw [sFold_snoc _ _ hlt2, HX.out]; exact HS2.out.add 0 x (by decide))
                have hT' := hT.below hb5
                have hC' := hC.later hb5
                have hb' := hb.trans (hb5.mono hs)
                clear hT hb hC hD hb5 HS2 hc1 h0 h1 h2 hs
                go_wp2_with fail
                go_roundw
                case rel => exact ⟨k + 1, g5, c5, _, by omega, by go_num, rfl, hD', HS', hC', hT', hb'⟩
                case measure => simp [intOf]; omega
              · obtain rfl : k = rs.length := by omega
                rw [List.take_length, HR.out] at HS2
                go_wp2_with fail
                go_loopw [9, 10, 13] (fun v v' t wr => ∃ (k : Nat) (g : Option Addr) (c : Nat) (xs : List Int) (g' : Option Addr) (c' : Nat) (ys : List Int) (O R : List Bool), k ≤ l.length ∧ t = .int .i64 k ∧ v = .slice g xs.length c ∧ v' = .slice g' ys.length c' ∧ RowC wr g c xs ∧ RowC wr g' c' ys ∧ Hid (Same xs O) ∧ Hid (Same ys R) ∧ TabAt wr b O R ∧ Below w.heap.size w wr) (fun _ _ t _ => l.length - (intOf t).toNat)
                case atStart => exact ⟨0, g, c, xs, g', c', ys, O, R, Nat.zero_le _, rfl, rfl, rfl, hC, hD, HS, HS2, hT, hb⟩
                case round =>
                  clear hT hb hC hs hD HS HS2 HO HR hk' hlt2 hlt hk
                  obtain ⟨k, g, c, xs, g', c', ys, O, R, hk, rfl, rfl, rfl, hC, hD, HS, HS2, hT, hb⟩ := hrel
                  have hs := hb.size
                  by_cases hlt : k < l.length
                  · obtain ⟨bb, off, kd, ow, ad, hg, _, hbb, hc1, hc2, hc3⟩ := (h2.later hb).get hlt
                    have hlt' : (k : Int) < (l.length : Int) := by omega
                    subst hg
                    have hbl : b < wr.heap.size := lt_block hT.block
                    have hsa := (Below.refl wr.heap.size wr).alloc (Nat.le_refl _) (.cells #[.int .i64 kd, .bool ow, .int .i64 ad] 48)
                    have hA0 := StepAt.made wr kd ow ad
                    cases ow
                    · go_wp2_with fail
                      refine (do_any g' c' ys kd ad false _ (hD.later hsa) HS2.out.few).mono ?_
                      rintro e w5 ⟨g5, c5, rfl, hD5, hb5⟩
                      have hA := hA0.later hb5
                      have hC5 := (hC.later hsa).later hb5
                      have hT5 := (hT.below hsa).below hb5
                      have hs5 : wr.heap.size + 1 ≤ w5.heap.size := by have := hb5.size; simp at this; omega
                      have hb6 := (hb.trans (hsa.mono hs)).trans (hb5.mono (by simp; omega))
                      obtain ⟨ca, cb, cc⟩ := hA.cells
                      by_cases hk2 : kd < 2
                      · have hcode := HS2.out.code kd ad
                        rw [if_pos hk2] at hcode
                        rw [hcode]
                        have HS6 := Lib.hid (HS2.out.add kd ad hk2)
                        clear hD hC hT hc1 hc2 hc3 hA0 hsa HS2 hcode
                        go_wp2_with fail
                        refine (add_any b false ad O R _ hT5).mono ?_
                        rintro e w7 ⟨rfl, hT7, g7⟩
                        have hA7 := hA.tab g7 (by omega)
                        have hC7 := hC5.tab hT5 g7
                        have hD7 := hD5.tab hT5 g7
                        have hb7 := below_row hb6 g7 hlb (Nat.le_trans hs (by omega))
                        clear hA ca cb cc hC5 hD5 hT5 hb6 g7 hb5 hs5
                        obtain ⟨ca, cb, cc⟩ := hA7.cells
                        go_wp2_with (go_at_call 26; refine (add_nil _ _ _).mono ?_; rintro e w' ⟨rfl, rfl⟩)
                        have hT8 : TabAt w7 b O (sAdd R ad) := hT7
                        have e1 : (sAddC R ad == sAddC R ad) = true := by simp
                        have e2 : (sAddC R ad != sAddC R ad) = false := by simp
                        have e3 : (inL xs ad == inL xs ad) = true := by simp
                        have e4 : (inL xs ad != inL xs ad) = false := by simp
                        have e5 : (inL (dL ys kd ad) ad == inL (dL ys kd ad) ad) = true := by simp
                        have e6 : (inL (dL ys kd ad) ad != inL (dL ys kd ad) ad) = false := by simp
                        have e7 : sideOf false O R = R := rfl
                        rw [e7]
                        have f1 := HS.out.few
                        have f2 := HS6.out.few
                        clear hT7 hA7
                        go_quiet (first
                          | (go_at_call_of 28 (Value.pointer none); exact Calls.quiet_of_same (flip (has_nil _ _ _)))
                          | (go_at_call_of 28 (Value.bool true); exact Calls.quiet_of_same (q_own hT8 HS.out ad _))
                          | (go_at_call_of 28 (Value.bool false); exact Calls.quiet_of_same (q_other hT8 HS6.out ad _))
                          | (go_at_call_of 29 (Value.slice g xs.length c); exact Calls.quiet_of_same (q_list hC7 f1 ad _))
                          | (go_at_call_of 29 (Value.slice g5 (dL ys kd ad).length c5); exact Calls.quiet_of_same (q_list hD7 f2 ad _)))
                        go_wp2_with fail
                        exact ⟨⟨k + 1, g, c, xs, g5, c5, _, O, sAdd R ad, by omega, by go_num, rfl, rfl, hC7.later (below_draw _ _), hD7.later (below_draw _ _), HS, HS6, hT8.below (below_draw _ _), below_drewN _ hb7⟩, by simp [intOf]; omega⟩
                      · have hcode := HS2.out.code kd ad
                        rw [if_neg hk2] at hcode
                        rw [hcode]
                        have HS6 := Lib.hid (HS2.out.drop kd ad hk2)
                        clear hD hC hT hc1 hc2 hc3 hA0 hsa HS2 hcode
                        go_wp2_with fail
                        refine (drop_any b false ad O R _ hT5).mono ?_
                        rintro e w7 ⟨rfl, hT7, g7⟩
                        have hA7 := hA.tab g7 (by omega)
                        have hC7 := hC5.tab hT5 g7
                        have hD7 := hD5.tab hT5 g7
                        have hb7 := below_row hb6 g7 hlb (Nat.le_trans hs (by omega))
                        clear hA ca cb cc hC5 hD5 hT5 hb6 g7 hb5 hs5
                        obtain ⟨ca, cb, cc⟩ := hA7.cells
                        go_wp2_with (go_at_call 27; refine (drop_nil _ _ _).mono ?_; rintro e w' ⟨rfl, rfl⟩)
                        have hT8 : TabAt w7 b O (sDrop R ad) := hT7
                        have e1 : (sDropC R ad == sDropC R ad) = true := by simp
                        have e2 : (sDropC R ad != sDropC R ad) = false := by simp
                        have e3 : (inL xs ad == inL xs ad) = true := by simp
                        have e4 : (inL xs ad != inL xs ad) = false := by simp
                        have e5 : (inL (dL ys kd ad) ad == inL (dL ys kd ad) ad) = true := by simp
                        have e6 : (inL (dL ys kd ad) ad != inL (dL ys kd ad) ad) = false := by simp
                        have e7 : sideOf false O R = R := rfl
                        rw [e7]
                        have f1 := HS.out.few
                        have f2 := HS6.out.few
                        clear hT7 hA7
                        go_quiet (first
                          | (go_at_call_of 28 (Value.pointer none); exact Calls.quiet_of_same (flip (has_nil _ _ _)))
                          | (go_at_call_of 28 (Value.bool true); exact Calls.quiet_of_same (q_own hT8 HS.out ad _))
                          | (go_at_call_of 28 (Value.bool false); exact Calls.quiet_of_same (q_other hT8 HS6.out ad _))
                          | (go_at_call_of 29 (Value.slice g xs.length c); exact Calls.quiet_of_same (q_list hC7 f1 ad _))
                          | (go_at_call_of 29 (Value.slice g5 (dL ys kd ad).length c5); exact Calls.quiet_of_same (q_list hD7 f2 ad _)))
                        go_wp2_with fail
                        exact ⟨⟨k + 1, g, c, xs, g5, c5, _, O, sDrop R ad, by omega, by go_num, rfl, rfl, hC7.later (below_draw _ _), hD7.later (below_draw _ _), HS, HS6, hT8.below (below_draw _ _), below_drewN _ hb7⟩, by simp [intOf]; omega⟩
                    · go_wp2_with fail
                      refine (do_any g c xs kd ad true _ (hC.later hsa) HS.out.few).mono ?_
                      rintro e w5 ⟨g5, c5, rfl, hD5, hb5⟩
                      have hA := hA0.later hb5
                      have hC5 := (hD.later hsa).later hb5
                      have hT5 := (hT.below hsa).below hb5
                      have hs5 : wr.heap.size + 1 ≤ w5.heap.size := by have := hb5.size; simp at this; omega
                      have hb6 := (hb.trans (hsa.mono hs)).trans (hb5.mono (by simp; omega))
                      obtain ⟨ca, cb, cc⟩ := hA.cells
                      by_cases hk2 : kd < 2
                      · have hcode := HS.out.code kd ad
                        rw [if_pos hk2] at hcode
                        rw [hcode]
                        have HS6 := Lib.hid (HS.out.add kd ad hk2)
                        clear hD hC hT hc1 hc2 hc3 hA0 hsa HS hcode
                        go_wp2_with fail
                        refine (add_any b true ad O R _ hT5).mono ?_
                        rintro e w7 ⟨rfl, hT7, g7⟩
                        have hA7 := hA.tab g7 (by omega)
                        have hC7 := hC5.tab hT5 g7
                        have hD7 := hD5.tab hT5 g7
                        have hb7 := below_row hb6 g7 hlb (Nat.le_trans hs (by omega))
                        clear hA ca cb cc hC5 hD5 hT5 hb6 g7 hb5 hs5
                        obtain ⟨ca, cb, cc⟩ := hA7.cells
                        go_wp2_with (go_at_call 26; refine (add_nil _ _ _).mono ?_; rintro e w' ⟨rfl, rfl⟩)
                        have hT8 : TabAt w7 b (sAdd O ad) R := hT7
                        have e1 : (sAddC O ad == sAddC O ad) = true := by simp
                        have e2 : (sAddC O ad != sAddC O ad) = false := by simp
                        have e3 : (inL ys ad == inL ys ad) = true := by simp
                        have e4 : (inL ys ad != inL ys ad) = false := by simp
                        have e5 : (inL (dL xs kd ad) ad == inL (dL xs kd ad) ad) = true := by simp
                        have e6 : (inL (dL xs kd ad) ad != inL (dL xs kd ad) ad) = false := by simp
                        have e7 : sideOf true O R = O := rfl
                        rw [e7]
                        have f1 := HS2.out.few
                        have f2 := HS6.out.few
                        clear hT7 hA7
                        go_quiet (first
                          | (go_at_call_of 28 (Value.pointer none); exact Calls.quiet_of_same (flip (has_nil _ _ _)))
                          | (go_at_call_of 28 (Value.bool true); exact Calls.quiet_of_same (q_own hT8 HS6.out ad _))
                          | (go_at_call_of 28 (Value.bool false); exact Calls.quiet_of_same (q_other hT8 HS2.out ad _))
                          | (go_at_call_of 29 (Value.slice g' ys.length c'); exact Calls.quiet_of_same (q_list hC7 f1 ad _))
                          | (go_at_call_of 29 (Value.slice g5 (dL xs kd ad).length c5); exact Calls.quiet_of_same (q_list hD7 f2 ad _)))
                        go_wp2_with fail
                        exact ⟨⟨k + 1, g5, c5, _, g', c', ys, sAdd O ad, R, by omega, by go_num, rfl, rfl, hD7.later (below_draw _ _), hC7.later (below_draw _ _), HS6, HS2, hT8.below (below_draw _ _), below_drewN _ hb7⟩, by simp [intOf]; omega⟩
                      · have hcode := HS.out.code kd ad
                        rw [if_neg hk2] at hcode
                        rw [hcode]
                        have HS6 := Lib.hid (HS.out.drop kd ad hk2)
                        clear hD hC hT hc1 hc2 hc3 hA0 hsa HS hcode
                        go_wp2_with fail
                        refine (drop_any b true ad O R _ hT5).mono ?_
                        rintro e w7 ⟨rfl, hT7, g7⟩
                        have hA7 := hA.tab g7 (by omega)
                        have hC7 := hC5.tab hT5 g7
                        have hD7 := hD5.tab hT5 g7
                        have hb7 := below_row hb6 g7 hlb (Nat.le_trans hs (by omega))
                        clear hA ca cb cc hC5 hD5 hT5 hb6 g7 hb5 hs5
                        obtain ⟨ca, cb, cc⟩ := hA7.cells
                        go_wp2_with (go_at_call 27; refine (drop_nil _ _ _).mono ?_; rintro e w' ⟨rfl, rfl⟩)
                        have hT8 : TabAt w7 b (sDrop O ad) R := hT7
                        have e1 : (sDropC O ad == sDropC O ad) = true := by simp
                        have e2 : (sDropC O ad != sDropC O ad) = false := by simp
                        have e3 : (inL ys ad == inL ys ad) = true := by simp
                        have e4 : (inL ys ad != inL ys ad) = false := by simp
                        have e5 : (inL (dL xs kd ad) ad == inL (dL xs kd ad) ad) = true := by simp
                        have e6 : (inL (dL xs kd ad) ad != inL (dL xs kd ad) ad) = false := by simp
                        have e7 : sideOf true O R = O := rfl
                        rw [e7]
                        have f1 := HS2.out.few
                        have f2 := HS6.out.few
                        clear hT7 hA7
                        go_quiet (first
                          | (go_at_call_of 28 (Value.pointer none); exact Calls.quiet_of_same (flip (has_nil _ _ _)))
                          | (go_at_call_of 28 (Value.bool true); exact Calls.quiet_of_same (q_own hT8 HS6.out ad _))
                          | (go_at_call_of 28 (Value.bool false); exact Calls.quiet_of_same (q_other hT8 HS2.out ad _))
                          | (go_at_call_of 29 (Value.slice g' ys.length c'); exact Calls.quiet_of_same (q_list hC7 f1 ad _))
                          | (go_at_call_of 29 (Value.slice g5 (dL xs kd ad).length c5); exact Calls.quiet_of_same (q_list hD7 f2 ad _)))
                        go_wp2_with fail
                        exact ⟨⟨k + 1, g5, c5, _, g', c', ys, sDrop O ad, R, by omega, by go_num, rfl, rfl, hD7.later (below_draw _ _), hC7.later (below_draw _ _), HS6, HS2, hT8.below (below_draw _ _), below_drewN _ hb7⟩, by simp [intOf]; omega⟩
                  · obtain rfl : k = l.length := by omega
                    have f1 : xs.length ≤ 9223372036854775807 := by have := HS.out.few; omega
                    have f2 : ys.length ≤ 9223372036854775807 := by have := HS2.out.few; omega
                    have l1 : (rl O 16).length ≤ 9223372036854775807 := by have := rl_le O 16; omega
                    have l2 : (rl R 16).length ≤ 9223372036854775807 := by have := rl_le R 16; omega
                    clear h0 h1 h2 hlt hk
                    go_wp2_with fail
                    refine (alls_own _ _ _ _ hT).mono ?_
                    rintro e w5 ⟨gA, capA, rfl, ownA, hb5⟩
                    have rA := Row3.of ownA
                    have hT5 := hT.below hb5
                    have hC5 := hC.later hb5
                    have hD5 := hD.later hb5
                    have hw5 := hb.trans (hb5.mono hs)
                    clear hT hC hD hb hb5 ownA hs
                    go_wp2_with fail
                    refine (rising_any _ _ xs O _ hC5.row3.row f1 HS.out.mem).mono ?_
                    rintro e w6 ⟨gB, capB, rfl, ownB, hb6⟩
                    have rB := Row3.of ownB
                    have hT6 := hT5.below hb6
                    have hD6 := hD5.later hb6
                    have rA6 := rA.later hb6
                    have hw6 := hw5.trans (hb6.mono hw5.size)
                    clear hT5 hC5 hD5 hw5 hb6 ownB rA
                    go_wp2_with fail
                    refine (ints_same _ _ _ _ (rl O 16) _ rA6.row rB.row l1).mono ?_
                    rintro e w7 ⟨rfl, hb7⟩
                    have hT7 := hT6.below hb7
                    have hD7 := hD6.later hb7
                    have hw7 := hw6.trans (hb7.mono hw6.size)
                    clear hT6 hD6 hw6 hb7 rA6 rB
                    go_wp2_with fail
                    refine (alls_other _ _ _ _ hT7).mono ?_
                    rintro e w8 ⟨gE, capE, rfl, ownE, hb8⟩
                    have rE := Row3.of ownE
                    have hD8 := hD7.later hb8
                    have hw8 := hw7.trans (hb8.mono hw7.size)
                    clear hT7 hD7 hw7 hb8 ownE
                    go_wp2_with fail
                    refine (rising_any _ _ ys R _ hD8.row3.row f2 HS2.out.mem).mono ?_
                    rintro e w9 ⟨gF, capF, rfl, ownF, hb9⟩
                    have rF := Row3.of ownF
                    have rE9 := rE.later hb9
                    have hw9 := hw8.trans (hb9.mono hw8.size)
                    clear hD8 hw8 hb9 ownF rE
                    go_wp2_with fail
                    refine (ints_same _ _ _ _ (rl R 16) _ rE9.row rF.row l2).mono ?_
                    rintro e w10 ⟨rfl, hb10⟩
                    have hw10 := hw9.trans (hb10.mono hw9.size)
                    clear hw9 hb10 rE9 rF
                    go_wp2_with fail
                    refine (alls_nil _ _).mono ?_
                    rintro e w' ⟨rfl, rfl⟩
                    go_wp2_with fail
                    refine (places_nil _).mono ?_
                    rintro e w' ⟨rfl, rfl⟩
                    go_wp2_with fail
                    go_ret
                    exact ⟨rfl, hw10⟩
end Go.Proofs.Ytafmkalepgcnkaa
