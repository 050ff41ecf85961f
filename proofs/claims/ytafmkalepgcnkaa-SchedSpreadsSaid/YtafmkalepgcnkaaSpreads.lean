/-
  The law SchedSpreads, walked.
-/
import Derived.Test.YtafmkalepgcnkaaSpread
namespace Go.Proofs.Ytafmkalepgcnkaa
open Go.RowKit Go.Sort

set_option maxHeartbeats 8000000 in
set_option maxRecDepth 100000 in
theorem spreads_any (g gr : Option Addr) (c cr : Nat) (l : List Ch) (rooms : List Int) (many : Int) (w : World) (h : ChIn w g l) (hr : RowIn w gr rooms) :
    Calls Try.prog 11 #[.slice g l.length c, .slice gr rooms.length cr, .int .i64 many] w fun e w' => e = .returned (.bool true) ∧ Below w.heap.size w w' := by
  by_cases h40 : 40 < l.length
  · have h40z : (40 : Int) < (l.length : Int) := by omega
    clear h hr
    go_enter Try.func11, Try.ntmps11
    go_wp2_with (go_at_call 32; refine (works31 _).mono ?_; rintro e w1 ⟨rfl, hb⟩)
    go_ret
    exact ⟨rfl, hb⟩
  · have h40z : (l.length : Int) ≤ 40 := by omega
    by_cases hr60 : 60 < rooms.length
    · have h60z : (60 : Int) < (rooms.length : Int) := by omega
      clear h hr
      go_enter Try.func11, Try.ntmps11
      go_wp2_with (go_at_call 32; refine (works31 _).mono ?_; rintro e w1 ⟨rfl, hb⟩)
      go_ret
      exact ⟨rfl, hb⟩
    · have h60z : (rooms.length : Int) ≤ 60 := by omega
      obtain ⟨i0, hi, hz0, hz1, hz2⟩ := info_parts Try.info3
      have hln : l.length ≤ 60 := by omega
      have hrn : rooms.length ≤ 100 := by omega
      obtain ⟨m, hm⟩ : ∃ m : Nat, mn2 (mx2 many 0) 200 = (m : Int) := ⟨(mn2 (mx2 many 0) 200).toNat, by unfold mn2 mx2; omega⟩
      have hm2 : m ≤ 200 := by have := hm; unfold mn2 mx2 at this; omega
      obtain ⟨M2, hM2⟩ : ∃ M2, mn2 many 200 = M2 := ⟨_, rfl⟩
      have HM : Hid ((M2 ≤ 0 ∧ m = 0) ∨ M2 = m) := Lib.hid (by have h1 := hm; have h2 := hM2; unfold mn2 at h1 h2; unfold mx2 at h1; omega)
      have HSPR := Lib.hid (fun W (hc : ChIn W g l) (hq : RowIn W gr rooms) => spread_any g gr c cr l rooms many m W hc hq hln hrn hm hm2)
      have HPL := Lib.hid (poss_length l)
      have HSL := Lib.hid (srt_length l)
      have HMM := Lib.hid hm2
      have hmn := run_mn
      clear hm h40 hr60 hm2
      go_enter Try.func11, Try.ntmps11
      go_wp2_with fail
      refine (works31 _).mono ?_
      rintro e w1 ⟨rfl, hb1⟩
      go_wp2_with fail
      refine (placesRef_any g c l _ (h.later hb1) hln).mono ?_
      rintro e w2 ⟨gp, cp, rfl, hownp, hb2⟩
      have hR := Row3.of hownp
      have hbw := hb1.trans (hb2.mono hb1.size)
      have hC := h.later hbw
      have hQ := hr.later hbw
      clear hownp hb1 hb2 h hr
      go_wp2_with fail
      go_loopw [8, 9] (fun v t wr => ∃ (k qn : Nat), k ≤ l.length ∧ t = .int .i64 k ∧ Hid (qn = (spr rooms m ((srt l).take k)).length) ∧ wr.ownsRow w2.heap.size 3 1 v qn ((spr rooms m ((srt l).take k)).map (Value.int .i64)) ∧ Below w2.heap.size w2 wr) (fun _ t _ => l.length - (intOf t).toNat)
      case atStart => exact ⟨0, 0, Nat.zero_le _, rfl, Lib.hid rfl, World.ownsRow_nil _ _ _ _, Below.refl _ _⟩
      case round =>
        obtain ⟨k, qn, hk, rfl, HQ, hown, hb⟩ := hrel
        have hsz := hb.size
        by_cases hlt : k < l.length
        · have hltz : (k : Int) < (l.length : Int) := by omega
          obtain ⟨x, ch, hx, hlx, hsk, hpx⟩ := srt_place l k hlt
          obtain ⟨i1, p1, q1, r1⟩ := ch
          have hxz : (x : Int) < (l.length : Int) := by omega
          have hkp : k < (poss l).length := by rw [HPL.out]; exact hlt
          obtain ⟨bp, rfl, cpk⟩ := (hR.later hb).get hkp
          rw [hpx] at cpk
          obtain ⟨b0, o0, rfl⟩ := hC.some (by omega)
          have HLX := Lib.hid hlx
          have HT := Lib.hid (spr_take rooms m _ k _ hsk)
          obtain ⟨O, hO⟩ : ∃ O, spr rooms m ((srt l).take k) = O := ⟨_, rfl⟩
          have hO2 : O.length ≤ m := by rw [← hO]; exact spr_le _ _ _
          rw [hO] at hown HT HQ
          have HO2 := Lib.hid hO2
          have HPX := Lib.hid hpx
          have HKP := Lib.hid hkp
          clear hO hO2 hlx hsk hpx hkp
          by_cases hxr : rooms.length ≤ x
          · have hxrz : (rooms.length : Int) ≤ (x : Int) := by omega
            have HT3 : Hid (spr rooms m ((srt l).take (k + 1)) = O) := Lib.hid (by
              rw [HT.out]; unfold room; rw [if_pos (by exact hxrz)]; simp)
            clear HT
            go_wp2
            go_roundw
            case rel => exact ⟨k + 1, qn, by omega, by go_num, by rw [HT3.out]; exact HQ, by rw [HT3.out]; exact hown, hb⟩
            case measure => simp [intOf]; omega
          · have hxrz : (x : Int) < (rooms.length : Int) := by omega
            have hxn : ¬ (rooms.length : Int) ≤ (x : Int) := by omega
            have hxr' : x < rooms.length := by omega
            obtain ⟨bq, oq, rfl, _⟩ := (hQ.later hb).get hxr'
            obtain ⟨r, hrr⟩ : ∃ r, rooms[x]?.getD 0 = r := ⟨_, rfl⟩
            obtain ⟨nn, hnn⟩ : ∃ nn : Nat, min (room rooms ⟨⟨i1, p1, q1, r1⟩, (x : Int)⟩) (m - O.length) = nn := ⟨_, rfl⟩
            have hroom : room rooms ⟨⟨i1, p1, q1, r1⟩, (x : Int)⟩ = r.toNat := by unfold room; rw [if_neg (by exact hxn)]; simp only [Int.toNat_natCast]; rw [hrr]
            rw [hnn] at HT
            have HN : Hid (nn = min r.toNat (m - O.length)) := Lib.hid (by rw [← hnn, hroom])
            have HRR := Lib.hid hrr
            clear hroom hrr hnn
            go_wp2_with fail
            obtain ⟨wo, rfl⟩ : ∃ wo : World, wo = wr := ⟨_, rfl⟩
            go_loopw [8, 10] (fun v t wr => ∃ (j qj : Nat), j ≤ nn ∧ t = .int .i64 j ∧ Hid (qj = (O ++ List.replicate j i1).length) ∧ wr.ownsRow w2.heap.size 3 1 v qj ((O ++ List.replicate j i1).map (Value.int .i64)) ∧ Below w2.heap.size w2 wr) (fun _ t _ => nn - (intOf t).toNat)
            case atStart => exact ⟨0, qn, Nat.zero_le _, rfl, Lib.hid (by rw [HQ.out]; simp), by simpa using hown, hb⟩
            case round =>
              clear hown hb cpk hsz
              obtain ⟨j, qj, hj, rfl, HJ, hown, hb⟩ := hrel
              have hszj := hb.size
              obtain ⟨gv, cv, rfl⟩ := own_slice hown
              obtain ⟨_, cpk⟩ := (hR.later hb).cellAt HKP.out
              rw [HPX.out] at cpk
              obtain ⟨bq', oq', hgq, hcq⟩ := (hQ.later hb).get hxr'
              rw [HRR.out] at hcq
              simp only [Option.some.injEq, Addr.mk.injEq, and_true] at hgq
              obtain ⟨rfl, rfl⟩ := hgq
              obtain ⟨_, d0, d1, d2, d3⟩ := (hC.later hb).cellsAt HLX.out
              have hqj : qj = O.length + j := by rw [HJ.out, List.length_append, List.length_replicate]
              have hqb : qj ≤ 400 := by have := HO2.out; have := HMM.out; have := HN.out; omega
              by_cases hlt2 : j < nn
              · have t1 : decide ((j : Int) < r) = true := decide_eq_true (by have := HN.out; omega)
                have t2 : decide ((qj : Int) < M2) = true := decide_eq_true (by have := HN.out; have := HM.out; omega)
                have t1' : (j : Int) < r := by have := HN.out; omega
                have t2' : (qj : Int) < M2 := by have := HN.out; have := HM.out; omega
                have hjb : (j : Int) ≤ 400 := by omega
                have HREP := Lib.hid (rep_succ j i1 O)
                obtain ⟨Q, hQQ⟩ : ∃ Q, O ++ List.replicate j i1 = Q := ⟨_, rfl⟩
                rw [hQQ] at hown HREP HJ
                clear hQQ hqj
                go_wp2_with (at_builtin; refine wpList_append_own _ rfl _ _ 23 rfl w2.heap.size 3 i0 (.int .i64 0) 1 8 Try.underlying23 hi hz0 hz1 hz2 rfl (by decide) _ _ _ rfl (hown.alloc _) ⟨wr.heap.size, 0, none⟩ 1 1 [.int .i64 i1] rfl rfl ?k1 ?k2 ?k3 ?k4 ?k5 ?_)
                case k1 =>
                  intro j u hj
                  match j, hj with
                  | 0, hj => simp at hj; subst hj; simp [Addr.add]
                case k2 => intro u hu; simp at hu; subst hu; rfl
                case k3 => unfold maxLen; omega
                case k4 => omega
                case k5 => simp; omega
                intro v' w3 hown' hgrow _
                have hb3 := (hb.alloc hszj (.cells #[.int .i64 i1] 3)).grown hgrow (by simp; omega) (fun j hj => (hown.lt j hj).1)
                have HJ2 : Hid (qj + 1 = (O ++ List.replicate (j + 1) i1).length) := Lib.hid (by rw [HREP.out, List.length_append, HJ.out]; rfl)
                clear hown hgrow hb d0 d1 d2 d3 hcq cpk t1 t2 t1' t2'
                go_wp2
                go_roundw
                case rel => exact ⟨j + 1, qj + 1, by omega, by go_num, HJ2, by rw [HREP.out, List.map_append]; exact hown', hb3⟩
                case measure => simp [intOf]; omega
              · obtain rfl : j = nn := by omega
                have hcase : (r ≤ (j : Int)) ∨ ((j : Int) < r ∧ M2 ≤ (qj : Int)) := by have := HN.out; have := HM.out; omega
                rw [← HT.out] at hown HJ
                clear hqj
                rcases hcase with hcc | ⟨hcc, hcd⟩
                · have t1 : decide ((j : Int) < r) = false := decide_eq_false (by omega)
                  go_wp2
                  go_roundw
                  case rel => exact ⟨k + 1, qj, by omega, by go_num, HJ, hown, hb⟩
                  case measure => simp [intOf]; omega
                · have t1 : decide ((j : Int) < r) = true := decide_eq_true hcc
                  have t2 : decide ((qj : Int) < M2) = false := decide_eq_false (by omega)
                  go_wp2
                  go_roundw
                  case rel => exact ⟨k + 1, qj, by omega, by go_num, HJ, hown, hb⟩
                  case measure => simp [intOf]; omega
        · obtain rfl : k = l.length := by omega
          have ht : (srt l).take l.length = srt l := by rw [← HSL.out, List.take_length]
          rw [ht] at hown HQ
          clear ht hlt hk
          have hw := hbw.trans (hb.mono hbw.size)
          have hC1 := hC.later hb
          have hQ1 := hQ.later hb
          have HMP := Lib.hid (HSPR.out _ hC1 hQ1)
          have hsp := spr_le rooms m (srt l)
          obtain ⟨L, hL⟩ : ∃ L, spr rooms m (srt l) = L := ⟨_, rfl⟩
          rw [hL] at hown HQ HMP hsp
          have hLn : L.length ≤ 9223372036854775807 := by have := HMM.out; omega
          obtain ⟨gw, cw, rfl⟩ := own_slice hown
          have hqe : qn = L.length := HQ.out
          subst hqe
          have hrw := Row3.of hown
          clear hown hb hbw hL hsp HQ hC hQ hR HSPR hC1 hQ1
          go_wp2_with fail
          refine Calls.mono (P := Try.prog) HMP.out ?_
          rintro e w4 ⟨go, co, rfl, hown4, hb4⟩
          have hro := Row3.of hown4
          have hr4 := hrw.later hb4
          have hw4 := hw.trans (hb4.mono hw.size)
          clear hb4 hw hrw hown4 HMP
          go_wp2_with fail
          refine (ints_same go gw co cw L _ hro.row hr4.row hLn).mono ?_
          rintro e w5 ⟨rfl, hb5⟩
          have hw5 := hw4.trans (hb5.mono hw4.size)
          go_wp2
          go_ret
          exact ⟨rfl, hw5⟩

end Go.Proofs.Ytafmkalepgcnkaa
