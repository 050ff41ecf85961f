/-
  The library's stable sort: the rotation (slices.rotateCmpFunc), walked once over any program that holds its text.
-/
import Derived.Test.YtafmkalepgcnkaaSwaps
namespace Go.Proofs.Ytafmkalepgcnkaa
open Go.Shelf Go.RowKit Go.Lib Go.Sort
variable {P : Program}

theorem swapRange_at (k : Nat) (L : Lay P k) (enc : Pl → List Value) (g : Nat) (cb : Array Value) (blk off cap a b n : Nat) (A B N : Int) (size : Nat) (d0 d : Array Pl) (w0 w : World)
    (R : RowK enc k w0 blk off d0) (hs : d0.size = d.size) (S : SWK enc k w0 blk off d w) (hA : A = a) (hB : B = b) (hN : N = n) (hz : size = d.size) (hab : a + n ≤ b) (hb : b + n ≤ d.size) (hsz : d.size ≤ 100000) :
    Calls P 53 #[.slice (some ⟨blk, off, none⟩) size cap, .int .i64 A, .int .i64 B, .int .i64 N, .func (.func g) #[] cb] w fun e w' => e = .returned (.tuple #[]) ∧ Aside (SWK enc k w0 blk off (swapR d a b n) w') := by
  subst hA hB hN hz
  exact swapRange_gen k L enc g cb blk off cap a b n d0 d w0 w R hs S hab hb hsz

set_option maxHeartbeats 4000000 in
set_option maxRecDepth 1000000 in
theorem rotate_gen (k : Nat) (L : Lay P k) (enc : Pl → List Value) (g : Nat) (cb : Array Value) (blk off cap a m b : Nat) (d0 d : Array Pl) (w0 w : World)
    (R : RowK enc k w0 blk off d0) (hs : d0.size = d.size) (S : SWK enc k w0 blk off d w) (ham : a < m) (hmb : m < b) (hb : b ≤ d.size) (hsz : d.size ≤ 100000) :
    Calls P 52 #[.slice (some ⟨blk, off, none⟩) d.size cap, .int .i64 a, .int .i64 m, .int .i64 b, .func (.func g) #[] cb] w fun e w' => e = .returned (.tuple #[]) ∧ ∃ d', Rot d a m b d' ∧ SWK enc k w0 blk off d' w' := by
  have mixed := L.mixed; have t0 := L.t0; have a0 := L.a0; have z0 := L.z0; have v0 := L.v0; have t3 := L.t3; have a3 := L.a3; have z3 := L.z3; have v3 := L.v3; have t4 := L.t4; have a4 := L.a4; have z4 := L.z4; have v4 := L.v4; have t76 := L.t76; have a76 := L.a76; have z76 := L.z76; have v76 := L.v76; have t83 := L.t83; have a83 := L.a83; have z83 := L.z83; have v83 := L.v83
  have e53 : ∀ args w, (callFunc 53 args).run P w = .ok (.enter 53 args) w := enters_of L.f53 (by kernel_rfl) rfl
  have F := L.f52
  have S0 : Aside (SWK enc k w0 blk off d w) := S
  have HB : Hid (b ≤ d.size ∧ d.size ≤ 100000) := ⟨hb, hsz⟩
  have hamz : (a : Int) < (m : Int) := by omega
  have hmbz : (m : Int) < (b : Int) := by omega
  have hbz : (b : Int) ≤ 100000 := by omega
  clear S
  go_enter F, Try.ntmps52
  go_wp2
  go_loopg [10, 11] (b - a) (fun kx s10 s11 wr => ∃ (i j : Nat) (dk : Array Pl), s10 = .int .i64 i ∧ s11 = .int .i64 j ∧ 0 < i ∧ 0 < j ∧ i ≤ m ∧ m + j ≤ b ∧ i + j ≤ kx ∧ dk.size = d.size ∧ Aside (SWK enc k w0 blk off dk wr) ∧ Hid (∀ d', Rot dk (m - i) m (m + j) d' → Rot d a m b d'))
  case atStart => exact ⟨m - a, b - m, d, by congr 1; omega, by congr 1; omega, by omega, by omega, by omega, by omega, by omega, rfl, S0, (by show ∀ d', _; rw [show m - (m - a) = a by omega, show m + (b - m) = b by omega]; exact fun _ h => h)⟩
  case round =>
    clear S0
    obtain ⟨i, j, dk, rfl, rfl, hi, hj, him, hjb, hkx, hds, S1, heq⟩ := hrel
    have hiz : (0 : Int) < (i : Int) := by omega
    have hjz : (0 : Int) < (j : Int) := by omega
    have himz : (i : Int) ≤ (m : Int) := by omega
    have hjbz : (m : Int) + (j : Int) ≤ (b : Int) := by omega
    have HDS := Lib.hid hds
    clear hds
    by_cases hij : i = j
    · subst hij
      go_wp2_with fail
      refine (swapRange_at k L enc g cb blk off cap (m - i) m i _ _ _ _ d0 dk w0 _ R (hs.trans HDS.out.symm) S1.out (by omega) rfl rfl HDS.out.symm (by omega) (by rw [HDS.out]; have := HB.out; omega) (by rw [HDS.out]; exact HB.out.2)).mono ?_
      rintro e w1 ⟨rfl, S2⟩
      go_wp2
      go_end0
      exact ⟨rfl, _, heq.out _ (Rot.even him (by rw [HDS.out]; have := HB.out; omega)), S2.out⟩
    · by_cases hlt : j < i
      · have hltz : (j : Int) < (i : Int) := by omega
        have hne : ((i : Int) == (j : Int)) = false := by rw [beq_eq_false_iff_ne]; omega
        have hne2 : ((i : Int) != (j : Int)) = true := by rw [bne_iff_ne]; omega
        go_wp2_with fail
        refine (swapRange_at k L enc g cb blk off cap (m - i) m j _ _ _ _ d0 dk w0 _ R (hs.trans HDS.out.symm) S1.out (by omega) rfl rfl HDS.out.symm (by omega) (by rw [HDS.out]; have := HB.out; omega) (by rw [HDS.out]; exact HB.out.2)).mono ?_
        rintro e w1 ⟨rfl, S2⟩
        clear S1
        go_wp2
        go_roundg (i + j - 1)
        case measure => omega
        case rel => exact ⟨i - j, j, _, by congr 1; omega, rfl, by omega, hj, by omega, hjb, by omega, by rw [swapR_size]; exact HDS.out, S2, (show Hid _ from fun d' h => heq.out d' (Rot.more him (by rw [HDS.out]; have := HB.out; omega) hlt h))⟩
      · have hltz : (i : Int) < (j : Int) := by omega
        have hne : ((i : Int) == (j : Int)) = false := by rw [beq_eq_false_iff_ne]; omega
        have hne2 : ((i : Int) != (j : Int)) = true := by rw [bne_iff_ne]; omega
        have hng : ¬ (j : Int) < (i : Int) := by omega
        go_wp2_with fail
        refine (swapRange_at k L enc g cb blk off cap (m - i) (m + j - i) i _ _ _ _ d0 dk w0 _ R (hs.trans HDS.out.symm) S1.out (by omega) (by omega) rfl HDS.out.symm (by omega) (by rw [HDS.out]; have := HB.out; omega) (by rw [HDS.out]; exact HB.out.2)).mono ?_
        rintro e w1 ⟨rfl, S2⟩
        clear S1
        go_wp2
        go_roundg (i + j - 1)
        case measure => omega
        case rel => exact ⟨i, j - i, _, rfl, by congr 1; omega, hi, by omega, him, by omega, by omega, by rw [swapR_size]; exact HDS.out, S2, (show Hid _ from fun d' h => heq.out d' (Rot.less him (by rw [HDS.out]; have := HB.out; omega) (by omega) h))⟩
end Go.Proofs.Ytafmkalepgcnkaa
