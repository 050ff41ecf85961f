/-
  The library's stable sort: the merge in place (slices.symMergeCmpFunc) where one of the two rows has one element, walked once over any program that holds its text.
-/
import Derived.Test.YtafmkalepgcnkaaRotate
namespace Go.Proofs.Ytafmkalepgcnkaa
open Go.Shelf Go.RowKit Go.Lib Go.Sort
variable {P : Program}

set_option maxHeartbeats 4000000 in
set_option maxRecDepth 1000000 in
theorem symOne_gen (k : Nat) (L : Lay P k) (enc : Pl → List Value) (g : Nat) (cb : Array Value) (blk off cap a m b : Nat) (d0 d : Array Pl) (w0 w : World)
    (eg : ∀ args w, (callFunc g args).run P w = .ok (.enter g args) w) (hcmp : CmpLays P g cb enc k cmpP blk off d0.size w0)
    (R : RowK enc k w0 blk off d0) (hs : d0.size = d.size) (S : SWK enc k w0 blk off d w) (h : MPre d a m b) (hm : m = a + 1) (hmb : m < b) (hsz : d.size ≤ 100000) :
    Calls P 51 #[.slice (some ⟨blk, off, none⟩) d.size cap, .int .i64 a, .int .i64 m, .int .i64 b, .func (.func g) #[] cb] w fun e w' => e = .returned (.tuple #[]) ∧ ∃ d', MPost d a b d' ∧ SWK enc k w0 blk off d' w' := by
  have mixed := L.mixed; have t0 := L.t0; have a0 := L.a0; have z0 := L.z0; have v0 := L.v0; have t3 := L.t3; have a3 := L.a3; have z3 := L.z3; have v3 := L.v3; have t4 := L.t4; have a4 := L.a4; have z4 := L.z4; have v4 := L.v4; have t76 := L.t76; have a76 := L.a76; have z76 := L.z76; have v76 := L.v76; have t83 := L.t83; have a83 := L.a83; have z83 := L.z83; have v83 := L.v83; have t89 := L.t89; have a89 := L.a89; have z89 := L.z89; have v89 := L.v89
  have aE := L.aE; have zE := L.zE
  have F := L.f51
  have S0 : Aside (SWK enc k w0 blk off d w) := S
  have HC : Aside _ := hcmp
  have HP := Lib.hid h
  have HB : Hid (b ≤ d.size ∧ m = a + 1) := ⟨h.bd, hm⟩
  have hm1 : ((m : Int) - (a : Int) == 1) = true := by rw [beq_iff_eq]; omega
  have hmz : (m : Int) < (b : Int) := by omega
  have hamz : (a : Int) < (m : Int) := by omega
  have hbz : (b : Int) ≤ 100000 := by have := h.bd; omega
  have hbz2 : (b : Int) ≤ (d.size : Int) := by have := h.bd; omega
  clear S h hm hcmp
  go_enter F, Try.ntmps51
  go_wp2
  go_loopg [10, 11] (b - m) (fun kx s10 s11 wr => ∃ (i j : Nat), s10 = .int .i64 i ∧ s11 = .int .i64 j ∧ m ≤ i ∧ i ≤ j ∧ j ≤ b ∧ j - i ≤ kx ∧ Aside (SWK enc k w0 blk off d wr) ∧ Hid (Find1 d a m b i j))
  case atStart => exact ⟨m, b, rfl, rfl, Nat.le_refl _, by omega, Nat.le_refl _, Nat.le_refl _, S0, Find1.start HP.out⟩
  case round =>
    clear S0
    obtain ⟨i, j, rfl, rfl, hmi, hij, hjb, hkx, S1, HF⟩ := hrel
    by_cases hlt : i < j
    · have hltz : (i : Int) < (j : Int) := by omega
      have hjz : (j : Int) ≤ (b : Int) := by omega
      go_wp2_with fail
      obtain ⟨c, hc⟩ : ∃ c : Nat, ((i : Int) + (j : Int)) / 2 = (c : Int) := ⟨(i + j) / 2, by omega⟩
      have hic : i ≤ c := by omega
      have hcj : c < j := by omega
      rw [hc]
      clear hc
      have ea1 : ((c : Int)).toNat = c := by omega
      have pa1 : (0 : Int) ≤ (c : Int) := by omega
      have ba1 : (c : Int) < (d.size : Int) := by omega
      have ra1 : IntKind.i64.wrap ((c : Int)) = (c : Int) := by rw [IntKind.wrap_i64]; omega
      have ea2 : ((a : Int)).toNat = a := by omega
      have pa2 : (0 : Int) ≤ (a : Int) := by omega
      have ba2 : (a : Int) < (d.size : Int) := by omega
      have ra2 : IntKind.i64.wrap ((a : Int)) = (a : Int) := by rw [IntKind.wrap_i64]; omega
      obtain ⟨x1, hx1⟩ : ∃ x, x = d[c]! := ⟨_, rfl⟩
      obtain ⟨y1, hy1⟩ : ∃ x, x = d[a]! := ⟨_, rfl⟩
      have l1a := S1.out.ld R (by omega) P c (by omega)
      have l1b := S1.out.ld R (by omega) P a (by omega)
      rw [← hx1] at l1a
      rw [← hy1] at l1b
      have hc1 := S1.out.cmp HC.out (by omega) x1 y1
      cases hlv : ltP d[c]! d[a]! with
      | true =>
        have hv1 : cmpP x1 y1 < 0 := by rw [hx1, hy1]; exact of_decide_eq_true hlv
        have hd1 : decide (cmpP x1 y1 < 0) = true := decide_eq_true hv1
        have HF2 := Lib.hid (HF.out.yes HP.out (by have := HB.out; omega) hic hcj hlv)
        clear hx1 hy1 hlv HF
        go_wp2_with fail
        go_quiet_grown (first | (go_at_fn g; refine Calls.grown_of (hc1 _ _)))
        have S2 : Aside (SWK enc k w0 blk off d (grow (wr.drewN nq) osq)) := S1.out.grown nq osq
        clear l1a l1b hc1 S1
        generalize grow (wr.drewN nq) osq = w2 at S2 ⊢
        clear nq osq
        go_wp2
        go_roundg (j - (c + 1))
        case measure => omega
        case rel => exact ⟨c + 1, j, by go_num, rfl, by omega, by omega, hjb, by omega, S2, HF2⟩
      | false =>
        have hv1 : ¬ cmpP x1 y1 < 0 := by rw [hx1, hy1]; exact of_decide_eq_false hlv
        have hd1 : decide (cmpP x1 y1 < 0) = false := decide_eq_false hv1
        have HF2 := Lib.hid (HF.out.no HP.out (by have := HB.out; omega) hic hcj hlv)
        clear hx1 hy1 hlv HF
        go_wp2_with fail
        go_quiet_grown (first | (go_at_fn g; refine Calls.grown_of (hc1 _ _)))
        have S2 : Aside (SWK enc k w0 blk off d (grow (wr.drewN nq) osq)) := S1.out.grown nq osq
        clear l1a l1b hc1 S1
        generalize grow (wr.drewN nq) osq = w2 at S2 ⊢
        clear nq osq
        go_wp2
        go_roundg (c - i)
        case measure => omega
        case rel => exact ⟨i, c, rfl, rfl, hmi, hic, by omega, by omega, S2, HF2⟩
    · obtain rfl : i = j := by omega
      have HM := Lib.hid (HF.out.done HP.out HB.out.2)
      obtain ⟨ip, rfl⟩ : ∃ ip, i = ip + 1 := ⟨i - 1, by omega⟩
      have haip : a ≤ ip := by have := HB.out; omega
      have haz : (a : Int) ≤ (ip : Int) := by omega
      have hipz : (ip : Int) + 1 ≤ (b : Int) := by omega
      clear HF hij hkx hlt
      go_wp2
      go_loopg [13] (ip - a) (fun kx s13 wr => ∃ (kk : Nat) (dk : Array Pl), s13 = .int .i64 kk ∧ a ≤ kk ∧ kk ≤ ip ∧ ip - kk ≤ kx ∧ dk.size = d.size ∧ Aside (SWK enc k w0 blk off dk wr) ∧ Hid (dk = upR d a (kk - a)))
      case atStart => exact ⟨a, d, rfl, Nat.le_refl _, haip, Nat.le_refl _, rfl, S1, (show _ = _ by rw [Nat.sub_self]; rfl)⟩
      case round =>
        clear S1
        obtain ⟨kk, dk, rfl, hak, hki, hkx, hds, S1, heq⟩ := hrel
        by_cases hlt : kk < ip
        · have hltz : (kk : Int) < (ip : Int) := by omega
          have ea44 : ((kk : Int)).toNat = kk := by omega
          have pa44 : (0 : Int) ≤ (kk : Int) := by omega
          have ba44 : (kk : Int) < (d.size : Int) := by omega
          have ra44 : IntKind.i64.wrap ((kk : Int)) = (kk : Int) := by rw [IntKind.wrap_i64]; omega
          have ec44 : ((kk : Int) + 1).toNat = kk + 1 := by omega
          have pc44 : (0 : Int) ≤ (kk : Int) + 1 := by omega
          have bc44 : (kk : Int) + 1 < (d.size : Int) := by omega
          have rc44 : IntKind.i64.wrap ((kk : Int) + 1) = (kk : Int) + 1 := by rw [IntKind.wrap_i64]; omega
          have S2 : Aside (SWK enc k w0 blk off (swp dk kk (kk + 1)) ((wr.drew.setCells blk (off + kk * k) (enc dk[kk + 1]!)).setCells blk (off + (kk + 1) * k) (enc dk[kk]!))) := S1.out.swapped R kk (kk + 1) (by omega) (by omega)
          have l44a := S1.out.ld1 R (by omega) P kk (by omega)
          have l44b := S1.out.ld1 R (by omega) P (kk + 1) (by omega)
          have s44a := S1.out.st1 R (by omega) P kk (by omega) dk[kk + 1]!
          have s44b := S1.out.st2 R (by omega) P kk (kk + 1) (by omega) (by omega) dk[kk + 1]! dk[kk]!
          have n44a : (enc dk[kk]!).length = k := R.hk _
          have n44b : (enc dk[kk + 1]!).length = k := R.hk _
          have heq2 : Hid (swp dk kk (kk + 1) = upR d a (kk + 1 - a)) := by show _ = _; rw [heq.out, show kk + 1 - a = (kk - a) + 1 by omega, upR, show a + (kk - a) = kk by omega]
          generalize enc dk[kk]! = cI44 at S2 l44a s44b n44a
          generalize enc dk[kk + 1]! = cJ44 at S2 l44b s44a s44b n44b
          clear S1
          go_wp2_with fail
          go_big_region_o
          clear l44a l44b s44a s44b
          generalize (wr.drew.setCells blk (off + kk * k) cJ44).setCells blk (off + (kk + 1) * k) cI44 = w2 at S2 ⊢
          go_wp2
          go_roundg (ip - (kk + 1))
          case measure => omega
          case rel =>
            exact ⟨kk + 1, swp dk kk (kk + 1), by go_num, by omega, by omega, by omega, by rw [size_swp]; exact hds, S2, heq2⟩
        · obtain rfl : kk = ip := by omega
          go_wp2
          (try simp only [Exit.inBlock, Exit.then])
          refine bodyPost_ret (results_none rfl _ _ _) rfl ?_
          exact ⟨rfl, _, HM.out, by have := heq.out; rw [show kk + 1 - 1 - a = kk - a by omega, ← this]; exact S1.out⟩
end Go.Proofs.Ytafmkalepgcnkaa
