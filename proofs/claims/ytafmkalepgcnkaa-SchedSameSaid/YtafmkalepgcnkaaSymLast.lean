/-
  The library's stable sort: the merge in place (slices.symMergeCmpFunc) where the right row has one element, walked once over any program that holds its text.
-/
import Derived.Test.YtafmkalepgcnkaaRotate
namespace Go.Proofs.Ytafmkalepgcnkaa
open Go.Shelf Go.RowKit Go.Lib Go.Sort
variable {P : Program}

set_option maxHeartbeats 4000000 in
set_option maxRecDepth 1000000 in
theorem symLast_gen (k : Nat) (L : Lay P k) (enc : Pl → List Value) (g : Nat) (cb : Array Value) (blk off cap a m b : Nat) (d0 d : Array Pl) (w0 w : World)
    (eg : ∀ args w, (callFunc g args).run P w = .ok (.enter g args) w) (hcmp : CmpLays P g cb enc k cmpP blk off d0.size w0)
    (R : RowK enc k w0 blk off d0) (hs : d0.size = d.size) (S : SWK enc k w0 blk off d w) (h : MPre d a m b) (ham : a + 1 < m) (hm : b = m + 1) (hsz : d.size ≤ 100000) :
    Calls P 51 #[.slice (some ⟨blk, off, none⟩) d.size cap, .int .i64 a, .int .i64 m, .int .i64 b, .func (.func g) #[] cb] w fun e w' => e = .returned (.tuple #[]) ∧ ∃ d', MPost d a b d' ∧ SWK enc k w0 blk off d' w' := by
  have mixed := L.mixed; have t0 := L.t0; have a0 := L.a0; have z0 := L.z0; have v0 := L.v0; have t3 := L.t3; have a3 := L.a3; have z3 := L.z3; have v3 := L.v3; have t4 := L.t4; have a4 := L.a4; have z4 := L.z4; have v4 := L.v4; have t76 := L.t76; have a76 := L.a76; have z76 := L.z76; have v76 := L.v76; have t83 := L.t83; have a83 := L.a83; have z83 := L.z83; have v83 := L.v83; have t89 := L.t89; have a89 := L.a89; have z89 := L.z89; have v89 := L.v89
  have aE := L.aE; have zE := L.zE
  have F := L.f51
  have S0 : Aside (SWK enc k w0 blk off d w) := S
  have HC : Aside _ := hcmp
  have HP := Lib.hid h
  have HB : Hid (b ≤ d.size ∧ b = m + 1 ∧ a + 1 < m) := ⟨h.bd, hm, ham⟩
  have hm1 : ((m : Int) - (a : Int) == 1) = false := by rw [beq_eq_false_iff_ne]; omega
  have hm2 : ((b : Int) - (m : Int) == 1) = true := by rw [beq_iff_eq]; omega
  have hmz : (m : Int) < (b : Int) := by omega
  have hamz : (a : Int) < (m : Int) := by omega
  have hbz : (b : Int) ≤ 100000 := by have := h.bd; omega
  have hbz2 : (b : Int) ≤ (d.size : Int) := by have := h.bd; omega
  clear S h hm hcmp ham
  go_enter F, Try.ntmps51
  go_wp2
  go_loopg [14, 15] (m - a) (fun kx s10 s11 wr => ∃ (i j : Nat), s10 = .int .i64 i ∧ s11 = .int .i64 j ∧ a ≤ i ∧ i ≤ j ∧ j ≤ m ∧ j - i ≤ kx ∧ Aside (SWK enc k w0 blk off d wr) ∧ Hid (Find2 d a m i j))
  case atStart => exact ⟨a, m, rfl, rfl, Nat.le_refl _, by omega, Nat.le_refl _, Nat.le_refl _, S0, Find2.start HP.out⟩
  case round =>
    clear S0
    obtain ⟨i, j, rfl, rfl, hmi, hij, hjb, hkx, S1, HF⟩ := hrel
    by_cases hlt : i < j
    · have hltz : (i : Int) < (j : Int) := by omega
      have hjz : (j : Int) ≤ (m : Int) := by omega
      go_wp2_with fail
      obtain ⟨c, hc⟩ : ∃ c : Nat, ((i : Int) + (j : Int)) / 2 = (c : Int) := ⟨(i + j) / 2, by omega⟩
      have hic : i ≤ c := by omega
      have hcj : c < j := by omega
      rw [hc]
      clear hc
      have ea1 : ((c : Int)).toNat = c := by omega
      have pa1 : (0 : Int) ≤ (c : Int) := by omega
      have ba1 : (c : Int) < (d.size : Int) := by omega
      have ra1 : IntKind.i64.wrap ((c : Int)) = (c : Int) := by rw [IntKind.wrap_i64]; omega
      have ea2 : ((m : Int)).toNat = m := by omega
      have pa2 : (0 : Int) ≤ (m : Int) := by omega
      have ba2 : (m : Int) < (d.size : Int) := by omega
      have ra2 : IntKind.i64.wrap ((m : Int)) = (m : Int) := by rw [IntKind.wrap_i64]; omega
      obtain ⟨x1, hx1⟩ : ∃ x, x = d[m]! := ⟨_, rfl⟩
      obtain ⟨y1, hy1⟩ : ∃ x, x = d[c]! := ⟨_, rfl⟩
      have l1a := S1.out.ld R (by omega) P m (by omega)
      have l1b := S1.out.ld R (by omega) P c (by omega)
      rw [← hx1] at l1a
      rw [← hy1] at l1b
      have hc1 := S1.out.cmp HC.out (by omega) x1 y1
      cases hlv : ltP d[m]! d[c]! with
      | true =>
        have hv1 : cmpP x1 y1 < 0 := by rw [hx1, hy1]; exact of_decide_eq_true hlv
        have hd1 : decide (cmpP x1 y1 < 0) = true := decide_eq_true hv1
        have HF2 := Lib.hid (HF.out.no HP.out (by have := HB.out; omega) hic hcj hlv)
        clear hx1 hy1 hlv HF
        go_wp2_with fail
        go_quiet_grown (first | (go_at_fn g; refine Calls.grown_of (hc1 _ _)))
        have S2 : Aside (SWK enc k w0 blk off d (grow (wr.drewN nq) osq)) := S1.out.grown nq osq
        clear l1a l1b hc1 S1
        generalize grow (wr.drewN nq) osq = w2 at S2 ⊢
        clear nq osq
        go_wp2
        go_roundg (c - i)
        case measure => omega
        case rel => exact ⟨i, c, rfl, rfl, hmi, hic, by omega, by omega, S2, HF2⟩
      | false =>
        have hv1 : ¬ cmpP x1 y1 < 0 := by rw [hx1, hy1]; exact of_decide_eq_false hlv
        have hd1 : decide (cmpP x1 y1 < 0) = false := decide_eq_false hv1
        have HF2 := Lib.hid (HF.out.yes HP.out (by have := HB.out; omega) hic hcj hlv)
        clear hx1 hy1 hlv HF
        go_wp2_with fail
        go_quiet_grown (first | (go_at_fn g; refine Calls.grown_of (hc1 _ _)))
        have S2 : Aside (SWK enc k w0 blk off d (grow (wr.drewN nq) osq)) := S1.out.grown nq osq
        clear l1a l1b hc1 S1
        generalize grow (wr.drewN nq) osq = w2 at S2 ⊢
        clear nq osq
        go_wp2
        go_roundg (j - (c + 1))
        case measure => omega
        case rel => exact ⟨c + 1, j, by go_num, rfl, by omega, by omega, hjb, by omega, S2, HF2⟩
    · obtain rfl : i = j := by omega
      have HM := Lib.hid (HF.out.done HP.out HB.out.2.1)
      have haz : (a : Int) ≤ (i : Int) := by omega
      have hiz : (i : Int) ≤ (m : Int) := by omega
      clear HF hij hkx hlt
      go_wp2
      go_loopg [17] (m - i) (fun kx s13 wr => ∃ (kk : Nat) (dk : Array Pl), s13 = .int .i64 kk ∧ i ≤ kk ∧ kk ≤ m ∧ kk - i ≤ kx ∧ dk.size = d.size ∧ Aside (SWK enc k w0 blk off dk wr) ∧ Hid (dk = downR d m (m - kk)))
      case atStart => exact ⟨m, d, rfl, hjb, Nat.le_refl _, Nat.le_refl _, rfl, S1, (show _ = _ by rw [Nat.sub_self]; rfl)⟩
      case round =>
        clear S1
        obtain ⟨kk, dk, rfl, hak, hki, hkx, hds, S1, heq⟩ := hrel
        by_cases hlt : i < kk
        · obtain ⟨kp, rfl⟩ : ∃ kp, kk = kp + 1 := ⟨kk - 1, by omega⟩
          have hltz : (i : Int) < (kp : Int) + 1 := by omega
          have ea44 : ((kp : Int) + 1).toNat = kp + 1 := by omega
          have pa44 : (0 : Int) ≤ (kp : Int) + 1 := by omega
          have ba44 : (kp : Int) + 1 < (d.size : Int) := by omega
          have ra44 : IntKind.i64.wrap ((kp : Int) + 1) = (kp : Int) + 1 := by rw [IntKind.wrap_i64]; omega
          have ec44 : ((kp : Int)).toNat = kp := by omega
          have pc44 : (0 : Int) ≤ (kp : Int) := by omega
          have bc44 : (kp : Int) < (d.size : Int) := by omega
          have rc44 : IntKind.i64.wrap ((kp : Int)) = (kp : Int) := by rw [IntKind.wrap_i64]; omega
          have S2 : Aside (SWK enc k w0 blk off (swp dk (kp + 1) kp) ((wr.drew.setCells blk (off + (kp + 1) * k) (enc dk[kp]!)).setCells blk (off + kp * k) (enc dk[kp + 1]!))) := S1.out.swapped R (kp + 1) kp (by omega) (by omega)
          have l44a := S1.out.ld1 R (by omega) P (kp + 1) (by omega)
          have l44b := S1.out.ld1 R (by omega) P kp (by omega)
          have s44a := S1.out.st1 R (by omega) P (kp + 1) (by omega) dk[kp]!
          have s44b := S1.out.st2 R (by omega) P (kp + 1) kp (by omega) (by omega) dk[kp]! dk[kp + 1]!
          have n44a : (enc dk[kp + 1]!).length = k := R.hk _
          have n44b : (enc dk[kp]!).length = k := R.hk _
          have heq2 : Hid (swp dk (kp + 1) kp = downR d m (m - kp)) := by show _ = _; rw [heq.out, show m - kp = (m - (kp + 1)) + 1 by omega, downR, show m - (m - (kp + 1)) = kp + 1 by omega, Nat.add_sub_cancel]
          generalize enc dk[kp + 1]! = cI44 at S2 l44a s44b n44a
          generalize enc dk[kp]! = cJ44 at S2 l44b s44a s44b n44b
          clear S1
          go_wp2_with fail
          go_big_region_o
          clear l44a l44b s44a s44b
          generalize (wr.drew.setCells blk (off + (kp + 1) * k) cJ44).setCells blk (off + kp * k) cI44 = w2 at S2 ⊢
          go_wp2
          go_roundg (kp - i)
          case measure => omega
          case rel =>
            exact ⟨kp, swp dk (kp + 1) kp, by first | rfl | go_num | (congr 1; omega), by omega, by omega, Nat.le_refl _, by rw [size_swp]; exact hds, S2, heq2⟩
        · obtain rfl : kk = i := by omega
          go_wp2
          (try simp only [Exit.inBlock, Exit.then])
          refine bodyPost_ret (results_none rfl _ _ _) rfl ?_
          exact ⟨rfl, _, HM.out, by have := heq.out; rw [← this]; exact S1.out⟩
end Go.Proofs.Ytafmkalepgcnkaa
