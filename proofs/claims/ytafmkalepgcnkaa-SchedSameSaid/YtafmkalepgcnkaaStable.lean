/-
  The library's stable sort (slices.stableCmpFunc) at sixty elements or fewer, walked once over any program that holds its text.
-/
import Derived.Test.YtafmkalepgcnkaaSym
namespace Go.Proofs.Ytafmkalepgcnkaa
open Go.Shelf Go.RowKit Go.Lib Go.Sort
variable {P : Program}

set_option maxHeartbeats 8000000 in
set_option maxRecDepth 1000000 in
theorem stable_gen (k : Nat) (L : Lay P k) (enc : Pl → List Value) (g : Nat) (cb : Array Value) (blk off cap n : Nat) (d0 : Array Pl) (w : World)
    (eg : ∀ args w, (callFunc g args).run P w = .ok (.enter g args) w) (hcmp : CmpLays P g cb enc k cmpP blk off d0.size w)
    (R : RowK enc k w blk off d0) (hn : n = d0.size) (hsz : n ≤ 60) (hA : Asc 0 0 d0.size d0) :
    Calls P 48 #[.slice (some ⟨blk, off, none⟩) n cap, .int .i64 n, .func (.func g) #[] cb] w fun e w' => e = .returned (.tuple #[]) ∧ ∃ d', PermIn 0 n d0 d' ∧ SortedIn lt2 0 n d' ∧ SWK enc k w blk off d' w' := by
  have mixed := L.mixed; have t0 := L.t0; have a0 := L.a0; have z0 := L.z0; have v0 := L.v0; have t3 := L.t3; have a3 := L.a3; have z3 := L.z3; have v3 := L.v3; have t4 := L.t4; have a4 := L.a4; have z4 := L.z4; have v4 := L.v4; have t76 := L.t76; have a76 := L.a76; have z76 := L.z76; have v76 := L.v76; have t83 := L.t83; have a83 := L.a83; have z83 := L.z83; have v83 := L.v83; have t89 := L.t89; have a89 := L.a89; have z89 := L.z89; have v89 := L.v89
  have e50 : ∀ args w, (callFunc 50 args).run P w = .ok (.enter 50 args) w := enters_of L.f50 (by kernel_rfl) rfl
  have e51 : ∀ args w, (callFunc 51 args).run P w = .ok (.enter 51 args) w := enters_of L.f51 (by kernel_rfl) rfl
  have F := L.f48
  have HC : Aside _ := hcmp
  have SYM : Aside (SymAt P k enc g cb blk off cap d0 w 100) := sym_all k L enc g cb blk off cap d0 w eg hcmp R (by omega) 100
  have S0 : Aside (SWK enc k w blk off d0 w) := SWK.start R.hH
  have R0 : Hid (Runs (S20 0) d0 n) := by rw [hn]; exact runs_start hA
  have HN : Hid (d0.size = n ∧ n ≤ 60) := ⟨hn.symm, hsz⟩
  have hnz : (n : Int) ≤ 60 := by omega
  clear hcmp hn hA hsz
  go_enter F, Try.ntmps48
  go_wp2
  go_loopg [7, 8] n (fun kx s7 s8 wr => ∃ (q : Nat) (a : Nat) (d : Array Pl), s7 = .int .i64 a ∧ s8 = .int .i64 ((a : Int) + 20) ∧ a ≤ n ∧ n - a ≤ kx ∧ Hid (a = 20 * q) ∧ Hid (d.size = n) ∧ Hid (PermIn 0 n d0 d) ∧ Aside (SWK enc k w blk off d wr) ∧ Hid (Runs (S20 q) d n))
  case atStart => exact ⟨0, 0, d0, rfl, rfl, Nat.zero_le _, by omega, rfl, HN.out.1, permIn_refl d0 0 n, S0, R0⟩
  case round =>
    clear S0 R0
    obtain ⟨q, a, d, rfl, rfl, han, hkx, HQ, HD, HPm, S1, HR⟩ := hrel
    have haz : (a : Int) ≤ (n : Int) := by omega
    by_cases hlt : a + 20 ≤ n
    · have hltz : (a : Int) + 20 ≤ (n : Int) := by omega
      go_wp2_with fail
      refine (insertion_at k L enc g cb blk off cap a (a + 20) _ _ _ d0 d w _ eg HC.out R (HN.out.1.trans HD.out.symm) S1.out rfl (by omega) HD.out.symm (by omega) (by have := HD.out; omega) (by have := HD.out; have := HN.out; omega) (by have := HQ.out; subst this; exact runs_ins_asc HR.out _ (by omega))).mono ?_
      rintro e w2 ⟨rfl, d2, HM, S2⟩
      have HD2 : Hid (d2.size = n) := HM.out.1.1.trans HD.out
      have HPm2 : Hid (PermIn 0 n d0 d2) := permIn_trans _ _ _ 0 n HPm.out (permIn_mono _ _ a (a + 20) 0 n (by omega) (by omega) (by have := HD.out; omega) HM.out.1)
      have HR2 : Hid (Runs (S20 (q + 1)) d2 n) := by
        have e1 := HQ.out
        have e2 := HD.out
        have e3 := HM.out
        rw [e1] at e3
        exact runs_ins HR.out (by omega) (by omega) e3
      have HQ2 : Hid (a + 20 = 20 * (q + 1)) := by show _ = _; have := HQ.out; omega
      clear HM HR HPm HD S1 HQ
      go_wp2
      go_roundg (n - (a + 20))
      case measure => omega
      case rel => exact ⟨q + 1, a + 20, d2, by go_num, by first | rfl | go_num | (congr 1; omega), hlt, Nat.le_refl _, HQ2, HD2, HPm2, S2, HR2⟩
    · have hltz : (n : Int) < (a : Int) + 20 := by omega
      go_wp2_with fail
      refine (insertion_at k L enc g cb blk off cap a n _ _ _ d0 d w _ eg HC.out R (HN.out.1.trans HD.out.symm) S1.out rfl rfl HD.out.symm han (by have := HD.out; omega) (by have := HD.out; have := HN.out; omega) (by have := HQ.out; subst this; exact runs_ins_asc HR.out _ (Nat.le_refl _))).mono ?_
      rintro e w2 ⟨rfl, d2, HM, S2⟩
      have HD2 : Hid (d2.size = n) := HM.out.1.1.trans HD.out
      have HPm2 : Hid (PermIn 0 n d0 d2) := permIn_trans _ _ _ 0 n HPm.out (permIn_mono _ _ a n 0 n (by omega) (by omega) (by have := HD.out; omega) HM.out.1)
      have HR2 : Hid (Runs (SS 20) d2 n) := by
        have e1 := HQ.out
        have e2 := HD.out
        have e3 := HM.out
        rw [e1] at e3
        exact runs_last HR.out (by omega) (by omega) (by omega) e3
      clear HM HR HPm HD S1 HQ hlt hltz han hkx haz
      go_wp2
      go_loopg [6] 80 (fun kx s6 wr => ∃ (s : Nat) (d : Array Pl), s6 = .int .i64 s ∧ (s = 20 ∨ s = 40 ∨ s = 80) ∧ 80 - s ≤ kx ∧ Hid (d.size = n) ∧ Hid (PermIn 0 n d0 d) ∧ Aside (SWK enc k w blk off d wr) ∧ Hid (Runs (SS s) d n))
      case atStart => exact ⟨20, d2, rfl, .inl rfl, by omega, HD2, HPm2, S2, HR2⟩
      case round =>
        clear HD2 HPm2 S2 HR2
        obtain ⟨s, d, rfl, hs3, hkx, HD, HPm, S1, HR⟩ := hrel
        by_cases hlt : s < n
        · have hs2 : s = 20 ∨ s = 40 := by have := HN.out.2; omega
          have hsz2 : (20 : Int) ≤ (s : Int) := by omega
          have hsz3 : (s : Int) ≤ 40 := by omega
          have hltz : (s : Int) < (n : Int) := by omega
          have HS2 : Hid (s = 20 ∨ s = 40) := hs2
          clear hs2 hs3
          have S2 := S1
          have HR2 : Hid (Runs (SM s 0) d n) := runs_pass HR.out
          clear HR
          go_wp2
          go_loopg [7, 8] n (fun kx s7 s8 wr => ∃ (q : Nat) (a : Nat) (d : Array Pl), s7 = .int .i64 a ∧ s8 = .int .i64 ((a : Int) + 2 * (s : Int)) ∧ a ≤ n ∧ n - a ≤ kx ∧ Hid (a = 2 * s * q) ∧ Hid (d.size = n) ∧ Hid (PermIn 0 n d0 d) ∧ Aside (SWK enc k w blk off d wr) ∧ Hid (Runs (SM s q) d n))
          case atStart => exact ⟨0, 0, d, rfl, by congr 1; omega, Nat.zero_le _, by omega, rfl, HD, HPm, S1, HR2⟩
          case round =>
            clear HD HPm S1 S2 HR2
            obtain ⟨q, a, d, rfl, rfl, han, hkx2, HQ, HD, HPm, S1, HR⟩ := hrel
            have haz : (a : Int) ≤ (n : Int) := by omega
            by_cases hlt2 : a + 2 * s ≤ n
            · have hltz2 : (a : Int) + 2 * (s : Int) ≤ (n : Int) := by omega
              go_wp2_with fail
              refine (SYM.out a (a + s) (a + 2 * s) _ _ _ _ d _ (by omega) (HN.out.1.trans HD.out.symm) S1.out rfl (by omega) (by omega) HD.out.symm (by have e1 := HQ.out; have e2 := HD.out; subst e1; exact runs_merge_pre HR.out HS2.out (by omega) _ (by omega) (by omega) (by omega)) (by omega) (by omega)).mono ?_
              rintro e w2 ⟨rfl, d2, HM, S2⟩
              have HD2 : Hid (d2.size = n) := HM.out.1.1.trans HD.out
              have HPm2 : Hid (PermIn 0 n d0 d2) := permIn_trans _ _ _ 0 n HPm.out (permIn_mono _ _ a (a + 2 * s) 0 n (by omega) (by omega) (by have := HD.out; omega) HM.out.1)
              have HR2 : Hid (Runs (SM s (q + 1)) d2 n) := by
                have e1 := HQ.out
                have e2 := HD.out
                have e3 := HM.out
                rw [e1] at e3
                exact runs_merge HR.out HS2.out (by omega) (by omega) e3
              have HQ2 : Hid (a + 2 * s = 2 * s * (q + 1)) := by show _ = _; have := HQ.out; rw [Nat.mul_add]; omega
              clear HM HR HPm HD S1 HQ
              go_wp2
              go_roundg (n - (a + 2 * s))
              case measure => omega
              case rel => exact ⟨q + 1, a + 2 * s, d2, by first | rfl | (congr 1; omega) | congr 1, by first | rfl | (congr 1; omega) | congr 1, hlt2, Nat.le_refl _, HQ2, HD2, HPm2, S2, HR2⟩
            · have hltz2 : (n : Int) < (a : Int) + 2 * (s : Int) := by omega
              by_cases hm : a + s < n
              · have hmz : (a : Int) + (s : Int) < (n : Int) := by omega
                go_wp2_with fail
                refine (SYM.out a (a + s) n _ _ _ _ d _ (by have := HN.out; omega) (HN.out.1.trans HD.out.symm) S1.out rfl (by omega) rfl HD.out.symm (by have e1 := HQ.out; have e2 := HD.out; subst e1; exact runs_merge_pre HR.out HS2.out (by omega) _ (by omega) (by omega) (by omega)) (by omega) (by omega)).mono ?_
                rintro e w2 ⟨rfl, d2, HM, S2⟩
                have HD2 : Hid (d2.size = n) := HM.out.1.1.trans HD.out
                have HPm2 : Hid (PermIn 0 n d0 d2) := permIn_trans _ _ _ 0 n HPm.out (permIn_mono _ _ a n 0 n (by omega) (by omega) (by have := HD.out; omega) HM.out.1)
                have HR2 : Hid (Runs (SS (2 * s)) d2 n) := by
                  have e1 := HQ.out
                  have e2 := HD.out
                  have e3 := HM.out
                  rw [e1] at e3
                  exact runs_rest HR.out HS2.out (by omega) (by omega) (by omega) e3
                clear HM HR HPm HD S1 HQ
                go_wp2
                go_roundg (80 - 2 * s)
                case measure => have := HS2.out; omega
                case rel => exact ⟨2 * s, d2, by congr 1; omega, by have := HS2.out; omega, Nat.le_refl _, HD2, HPm2, S2, HR2⟩
              · have hmz : (n : Int) ≤ (a : Int) + (s : Int) := by omega
                have HR2 : Hid (Runs (SS (2 * s)) d n) := by
                  have e1 := HQ.out
                  exact runs_none HR.out HS2.out (by omega)
                go_wp2
                go_roundg (80 - 2 * s)
                case measure => have := HS2.out; omega
                case rel => exact ⟨2 * s, d, by congr 1; omega, by have := HS2.out; omega, Nat.le_refl _, HD, HPm, S1, HR2⟩
        · have hltz : (n : Int) ≤ (s : Int) := by omega
          have hng : ¬ (s : Int) < (n : Int) := by omega
          have HS : Hid (SortedIn lt2 0 n d) := runs_done HR.out (by omega)
          clear HR
          go_wp2
          go_end0
          exact ⟨rfl, d, HPm.out, HS.out, S1.out⟩
end Go.Proofs.Ytafmkalepgcnkaa
