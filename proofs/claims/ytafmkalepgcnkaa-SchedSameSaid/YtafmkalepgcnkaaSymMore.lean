/-
  The library's stable sort: the merge in place (slices.symMergeCmpFunc) where both rows have more than one element, walked once over any program that holds its text; the lesser merges by hypothesis. (Written by wip/tools/symmore.py.)
-/
import Derived.Test.YtafmkalepgcnkaaRotate
namespace Go.Proofs.Ytafmkalepgcnkaa
open Go.Shelf Go.RowKit Go.Lib Go.Sort
variable {P : Program}

theorem rotate_at (k : Nat) (L : Lay P k) (enc : Pl → List Value) (g : Nat) (cb : Array Value) (blk off cap a m b : Nat) (A M B : Int) (size : Nat) (d0 d : Array Pl) (w0 w : World)
    (R : RowK enc k w0 blk off d0) (hs : d0.size = d.size) (S : SWK enc k w0 blk off d w) (hA : A = a) (hM : M = m) (hB : B = b) (hz : size = d.size) (ham : a < m) (hmb : m < b) (hb : b ≤ d.size) (hsz : d.size ≤ 100000) :
    Calls P 52 #[.slice (some ⟨blk, off, none⟩) size cap, .int .i64 A, .int .i64 M, .int .i64 B, .func (.func g) #[] cb] w fun e w' => e = .returned (.tuple #[]) ∧ ∃ d', Hid (Rot d a m b d') ∧ Aside (SWK enc k w0 blk off d' w') := by
  subst hA hM hB hz
  exact (rotate_gen k L enc g cb blk off cap a m b d0 d w0 w R hs S ham hmb hb hsz).mono fun _ _ ⟨he, d', h1, h2⟩ => ⟨he, d', h1, h2⟩

/-- A lesser merge, as it is called. -/
def SymAt (P : Program) (k : Nat) (enc : Pl → List Value) (g : Nat) (cb : Array Value) (blk off cap : Nat) (d0 : Array Pl) (w0 : World) (N : Nat) : Prop :=
  ∀ (a m b : Nat) (A M B : Int) (size : Nat) (d : Array Pl) (w : World), b - a < N → d0.size = d.size → SWK enc k w0 blk off d w → A = a → M = m → B = b → size = d.size → MPre d a m b → a < m → m < b →
    Calls P 51 #[.slice (some ⟨blk, off, none⟩) size cap, .int .i64 A, .int .i64 M, .int .i64 B, .func (.func g) #[] cb] w fun e w' => e = .returned (.tuple #[]) ∧ ∃ d', Hid (MPost d a b d') ∧ Aside (SWK enc k w0 blk off d' w')

set_option maxHeartbeats 8000000 in
set_option maxRecDepth 1000000 in
theorem symMore_gen (k : Nat) (L : Lay P k) (enc : Pl → List Value) (g : Nat) (cb : Array Value) (blk off cap a m b : Nat) (d0 d : Array Pl) (w0 w : World)
    (eg : ∀ args w, (callFunc g args).run P w = .ok (.enter g args) w) (hcmp : CmpLays P g cb enc k cmpP blk off d0.size w0)
    (R : RowK enc k w0 blk off d0) (hs : d0.size = d.size) (S : SWK enc k w0 blk off d w) (h : MPre d a m b) (ham : a + 1 < m) (hm : m + 1 < b) (hsz : d.size ≤ 100000) (hI : SymAt P k enc g cb blk off cap d0 w0 (b - a)) :
    Calls P 51 #[.slice (some ⟨blk, off, none⟩) d.size cap, .int .i64 a, .int .i64 m, .int .i64 b, .func (.func g) #[] cb] w fun e w' => e = .returned (.tuple #[]) ∧ ∃ d', MPost d a b d' ∧ SWK enc k w0 blk off d' w' := by
  have mixed := L.mixed; have t0 := L.t0; have a0 := L.a0; have z0 := L.z0; have v0 := L.v0; have t3 := L.t3; have a3 := L.a3; have z3 := L.z3; have v3 := L.v3; have t4 := L.t4; have a4 := L.a4; have z4 := L.z4; have v4 := L.v4; have t76 := L.t76; have a76 := L.a76; have z76 := L.z76; have v76 := L.v76; have t83 := L.t83; have a83 := L.a83; have z83 := L.z83; have v83 := L.v83; have t89 := L.t89; have a89 := L.a89; have z89 := L.z89; have v89 := L.v89
  have aE := L.aE; have zE := L.zE
  have e51 : ∀ args w, (callFunc 51 args).run P w = .ok (.enter 51 args) w := enters_of L.f51 (by kernel_rfl) rfl
  have e52 : ∀ args w, (callFunc 52 args).run P w = .ok (.enter 52 args) w := enters_of L.f52 (by kernel_rfl) rfl
  have F := L.f51
  have S0 : Aside (SWK enc k w0 blk off d w) := S
  have HC : Aside _ := hcmp
  have HI : Aside _ := hI
  have HP := Lib.hid h
  have HB : Hid (b ≤ d.size ∧ d.size ≤ 100000 ∧ m + 1 < b ∧ a + 1 < m ∧ d0.size = d.size) := ⟨h.bd, hsz, hm, ham, hs⟩
  have hm1 : ((m : Int) - (a : Int) == 1) = false := by rw [beq_eq_false_iff_ne]; omega
  have hm2 : ((b : Int) - (m : Int) == 1) = false := by rw [beq_eq_false_iff_ne]; omega
  have hmz : (m : Int) < (b : Int) := by omega
  have hamz : (a : Int) < (m : Int) := by omega
  have hbz : (b : Int) ≤ 100000 := by have := h.bd; omega
  have hbz2 : (b : Int) ≤ (d.size : Int) := by have := h.bd; omega
  obtain ⟨mid, hmid1, hmid2⟩ : ∃ mid : Nat, 2 * mid ≤ a + b ∧ a + b < 2 * mid + 2 := ⟨(a + b) / 2, by omega, by omega⟩
  have key : ∃ s0 r0 : Nat, Mid a m b mid s0 r0 := by
    by_cases hc : mid < m
    · exact ⟨mid + m - b, mid, ⟨by omega, by omega, hmid1, hmid2, .inl ⟨hc, by omega, rfl⟩⟩⟩
    · exact ⟨a, m, ⟨by omega, by omega, hmid1, hmid2, .inr ⟨by omega, rfl, rfl⟩⟩⟩
  obtain ⟨s0, r0, q⟩ := key
  have Q := Lib.hid q
  have hmidz : ((a : Int) + (b : Int)) / 2 = (mid : Int) := by omega
  obtain ⟨p, HPP⟩ : ∃ p : Nat, Hid (p = mid + m - 1) := ⟨_, rfl⟩
  have hpq : (mid : Int) + (m : Int) - 1 = (p : Int) := by have := HPP.out; omega
  have hmid3 : (a : Int) ≤ (mid : Int) := by omega
  have hmid4 : (mid : Int) ≤ (b : Int) := by omega
  have hcase : (mid : Int) < (m : Int) ∨ ¬ (mid : Int) < (m : Int) := by omega
  clear S h hm hcmp ham hI hmid1 hmid2 q
  go_enter F, Try.ntmps51
  rcases hcase with hcase | hcase
  all_goals
    go_wp2
    go_loopg [20, 21] (r0 - s0) (fun kx s20 s21 wr => ∃ (s r : Nat), s20 = .int .i64 s ∧ s21 = .int .i64 r ∧ s ≤ r ∧ r - s ≤ kx ∧ Aside (SWK enc k w0 blk off d wr) ∧ Hid (Find3 d (mid + m - 1) s0 r0 s r))
    case atStart =>
      have q := Q.out
      have qc := q.cs
      exact ⟨s0, r0, by congr 1; omega, by congr 1; omega, q.le, Nat.le_refl _, S0, Find3.start q⟩
    case round =>
      clear S0
      obtain ⟨s, r, rfl, rfl, hsr, hkx, S1, HF⟩ := hrel
      by_cases hlt : s < r
      · have hltz : (s : Int) < (r : Int) := by omega
        have hrz : (r : Int) ≤ (m : Int) := by have := Q.out.at (r - 1) (by have := HF.out.ss; omega) (by have := HF.out.rr; omega); omega
        go_wp2_with fail
        obtain ⟨c, hc⟩ : ∃ c : Nat, ((s : Int) + (r : Int)) / 2 = (c : Int) := ⟨(s + r) / 2, by omega⟩
        have hic : s ≤ c := by omega
        have hcj : c < r := by omega
        rw [hc]
        clear hc
        have hat := Q.out.at c (by have := HF.out.ss; omega) (by have := HF.out.rr; omega)
        have hpp := HPP.out
        obtain ⟨t, ht⟩ : ∃ t : Nat, t = p - c := ⟨_, rfl⟩
        have htp : p = t + c := by omega
        have htb : t < b := by omega
        have htm : m ≤ t := by omega
        have HT : Hid (t = mid + m - 1 - c) := Lib.hid (by omega)
        have HA := Lib.hid hat
        have hpz : (p : Int) ≤ 200000 := by omega
        have hcp : (c : Int) ≤ (p : Int) := by omega
        clear hat hpp ht
        have ea1 : ((p : Int) - (c : Int)).toNat = t := by omega
        have pa1 : (0 : Int) ≤ (p : Int) - (c : Int) := by omega
        have ba1 : (p : Int) - (c : Int) < (d.size : Int) := by omega
        have ra1 : IntKind.i64.wrap ((p : Int) - (c : Int)) = (p : Int) - (c : Int) := by rw [IntKind.wrap_i64]; omega
        have ea2 : ((c : Int)).toNat = c := by omega
        have pa2 : (0 : Int) ≤ (c : Int) := by omega
        have ba2 : (c : Int) < (d.size : Int) := by omega
        have ra2 : IntKind.i64.wrap ((c : Int)) = (c : Int) := by rw [IntKind.wrap_i64]; omega
        obtain ⟨x1, hx1⟩ : ∃ x, x = d[t]! := ⟨_, rfl⟩
        obtain ⟨y1, hy1⟩ : ∃ x, x = d[c]! := ⟨_, rfl⟩
        have l1a := S1.out.ld R (by omega) P t (by omega)
        have l1b := S1.out.ld R (by omega) P c (by omega)
        rw [← hx1] at l1a
        rw [← hy1] at l1b
        have hc1 := S1.out.cmp HC.out (by omega) x1 y1
        clear htp htb htm
        cases hlv : ltP d[t]! d[c]! with
        | true =>
          have hv1 : cmpP x1 y1 < 0 := by rw [hx1, hy1]; exact of_decide_eq_true hlv
          have hd1 : decide (cmpP x1 y1 < 0) = true := decide_eq_true hv1
          have HF2 := Lib.hid (HF.out.no Q.out HP.out hic hcj (by rw [← HT.out]; exact hlv))
          clear hx1 hy1 hlv HF HT
          go_wp2_with fail
          go_quiet_grown (first | (go_at_fn g; refine Calls.grown_of (hc1 _ _)))
          have S2 : Aside (SWK enc k w0 blk off d (grow (wr.drewN nq) osq)) := S1.out.grown nq osq
          clear l1a l1b hc1 S1
          generalize grow (wr.drewN nq) osq = w2 at S2 ⊢
          clear nq osq
          go_wp2
          go_roundg (c - s)
          case measure => omega
          case rel => exact ⟨s, c, rfl, rfl, hic, Nat.le_refl _, S2, HF2⟩
        | false =>
          have hv1 : ¬ cmpP x1 y1 < 0 := by rw [hx1, hy1]; exact of_decide_eq_false hlv
          have hd1 : decide (cmpP x1 y1 < 0) = false := decide_eq_false hv1
          have HF2 := Lib.hid (HF.out.yes Q.out HP.out hic hcj (by rw [← HT.out]; exact hlv))
          clear hx1 hy1 hlv HF HT
          go_wp2_with fail
          go_quiet_grown (first | (go_at_fn g; refine Calls.grown_of (hc1 _ _)))
          have S2 : Aside (SWK enc k w0 blk off d (grow (wr.drewN nq) osq)) := S1.out.grown nq osq
          clear l1a l1b hc1 S1
          generalize grow (wr.drewN nq) osq = w2 at S2 ⊢
          clear nq osq
          go_wp2
          go_roundg (r - (c + 1))
          case measure => omega
          case rel => exact ⟨c + 1, r, by go_num, rfl, by omega, Nat.le_refl _, S2, HF2⟩
      · obtain rfl : s = r := by omega
        have HT := Lib.hid (HF.out.done Q.out HP.out)
        obtain ⟨e, he⟩ : ∃ e : Nat, e = mid + m - s := ⟨_, rfl⟩
        have heT : Parted d a m b s e := by rw [he]; exact HT.out
        have hz1 : a ≤ s := heT.as
        have hz2 : s ≤ m := heT.sm
        have hz3 : m ≤ e := heT.me
        have hz4 : e ≤ b := heT.eb
        have hez : (mid : Int) + (m : Int) - (s : Int) = (e : Int) := by omega
        have HE : Hid (mid = s + (e - m)) := Lib.hid (by omega)
        have y1 : (a : Int) ≤ (s : Int) := by omega
        have y2 : (s : Int) ≤ (m : Int) := by omega
        have y3 : (m : Int) ≤ (e : Int) := by omega
        have y4 : (e : Int) ≤ (b : Int) := by omega
        have TT := Lib.hid heT
        clear HT HF heT hkx hlt hsr
        have HZ := Lib.hid (And.intro hz1 (And.intro hz2 (And.intro hz3 (And.intro hz4 he))))
        clear hz1 hz2 hz3 hz4 he
        -- the rotation, or none
        by_cases c1 : s < m ∧ m < e
        · obtain ⟨c1a, c1b⟩ := c1
          have u1 : (s : Int) < (m : Int) := by omega
          have u2 : (m : Int) < (e : Int) := by omega
          have d1' : decide ((s : Int) < (m : Int)) = true := decide_eq_true u1
          have d2' : decide ((m : Int) < (e : Int)) = true := decide_eq_true u2
          clear c1a c1b
          go_wp2_with fail
          refine (rotate_at k L enc g cb blk off cap s m e _ _ _ _ d0 d w0 _ R HB.out.2.2.2.2 S1.out rfl rfl (by omega) rfl (by omega) (by omega) (by have := HZ.out; have := HB.out; omega) HB.out.2.1).mono ?_
          rintro _ w3 ⟨rfl, d1, HR, S2⟩
          clear S1
          have HL := Lib.hid (TT.out.lower HP.out HR.out)
          have Hs1 : Hid (d1.size = d.size) := HR.out.perm.1
          by_cases c2 : a < s ∧ s < mid
          · obtain ⟨c2a, c2b⟩ := c2
            have u3 : (a : Int) < (s : Int) := by omega
            have u4 : (s : Int) < (mid : Int) := by omega
            have d3' : decide ((a : Int) < (s : Int)) = true := decide_eq_true u3
            have d4' : decide ((s : Int) < (mid : Int)) = true := decide_eq_true u4
            clear c2a c2b
            go_wp2_with fail
            refine (HI.out a s mid _ _ _ _ d1 _ (by have := HZ.out; have := HB.out; omega) (HB.out.2.2.2.2.trans Hs1.out.symm) S2.out rfl rfl (by omega) Hs1.out.symm (by rw [HE.out]; exact HL.out) (by omega) (by omega)).mono ?_
            rintro _ w4 ⟨rfl, d2, HM2, S3⟩
            clear S2
            have HU := Lib.hid (TT.out.upper HP.out HR.out (by rw [← HE.out]; exact HM2.out.1))
            have Hs2 : Hid (d2.size = d.size) := HM2.out.1.1.trans Hs1.out
            by_cases c3 : mid < e ∧ e < b
            · obtain ⟨c3a, c3b⟩ := c3
              have u5 : (mid : Int) < (e : Int) := by omega
              have u6 : (e : Int) < (b : Int) := by omega
              have d5' : decide ((mid : Int) < (e : Int)) = true := decide_eq_true u5
              have d6' : decide ((e : Int) < (b : Int)) = true := decide_eq_true u6
              clear c3a c3b
              go_wp2_with fail
              refine (HI.out mid e b _ _ _ _ d2 _ (by have := HZ.out; have := HB.out; have := HE.out; omega) (HB.out.2.2.2.2.trans Hs2.out.symm) S3.out rfl (by omega) rfl Hs2.out.symm (by have := HU.out; rw [← HE.out] at this; exact this) (by omega) (by omega)).mono ?_
              rintro _ w5 ⟨rfl, d3, HM3, S4⟩
              clear S3
              go_wp2
              go_end0
              exact ⟨rfl, d3, TT.out.join HP.out HR.out (by rw [← HE.out]; exact HM2.out) (by rw [← HE.out]; exact HM3.out), S4.out⟩
            · have HN3 : Hid (¬ (mid < e ∧ e < b)) := c3
              clear c3
              have hn3 : (decide (mid < e) = false ∧ ¬ (mid : Int) < (e : Int)) ∨ (decide (mid < e) = true ∧ (mid : Int) < (e : Int) ∧ decide (e < b) = false ∧ ¬ (e : Int) < (b : Int)) := by
                by_cases hq : mid < e
                · exact .inr ⟨decide_eq_true hq, by omega, decide_eq_false (by have := HN3.out; omega), by have := HN3.out; omega⟩
                · exact .inl ⟨decide_eq_false hq, by omega⟩
              rcases hn3 with ⟨hn3, hm3⟩ | ⟨hn3, hm3, hn3', hm3'⟩
              all_goals
                go_wp2
                go_end0
                exact ⟨rfl, d2, TT.out.join HP.out HR.out (by rw [← HE.out]; exact HM2.out) (HU.out.none (by have := HN3.out; have := HZ.out; have := HE.out; omega)), S3.out⟩
          · have HN2 : Hid (¬ (a < s ∧ s < mid)) := c2
            clear c2
            have S3 := S2
            obtain ⟨d2, hd2⟩ : ∃ d2, d2 = d1 := ⟨d1, rfl⟩
            rw [← hd2] at S3
            have HM2 : Hid (MPost d1 a mid d2) := by rw [hd2, HE.out]; exact HL.out.none (by have := HN2.out; have := HZ.out; have := HE.out; omega)
            clear S2 hd2
            have HU := Lib.hid (TT.out.upper HP.out HR.out (by rw [← HE.out]; exact HM2.out.1))
            have Hs2 : Hid (d2.size = d.size) := HM2.out.1.1.trans Hs1.out
            by_cases c3 : mid < e ∧ e < b
            · obtain ⟨c3a, c3b⟩ := c3
              have u5 : (mid : Int) < (e : Int) := by omega
              have u6 : (e : Int) < (b : Int) := by omega
              have d5' : decide ((mid : Int) < (e : Int)) = true := decide_eq_true u5
              have d6' : decide ((e : Int) < (b : Int)) = true := decide_eq_true u6
              clear c3a c3b
              have hn2 : (decide (a < s) = false ∧ ¬ (a : Int) < (s : Int)) ∨ (decide (a < s) = true ∧ (a : Int) < (s : Int) ∧ decide (s < mid) = false ∧ ¬ (s : Int) < (mid : Int)) := by
                by_cases hq : a < s
                · exact .inr ⟨decide_eq_true hq, by omega, decide_eq_false (by have := HN2.out; omega), by have := HN2.out; omega⟩
                · exact .inl ⟨decide_eq_false hq, by omega⟩
              rcases hn2 with ⟨hn2, hm2⟩ | ⟨hn2, hm2, hn2', hm2'⟩
              all_goals
                go_wp2_with fail
                refine (HI.out mid e b _ _ _ _ d2 _ (by have := HZ.out; have := HB.out; have := HE.out; omega) (HB.out.2.2.2.2.trans Hs2.out.symm) S3.out rfl (by omega) rfl Hs2.out.symm (by have := HU.out; rw [← HE.out] at this; exact this) (by omega) (by omega)).mono ?_
                rintro _ w5 ⟨rfl, d3, HM3, S4⟩
                clear S3
                go_wp2
                go_end0
                exact ⟨rfl, d3, TT.out.join HP.out HR.out (by rw [← HE.out]; exact HM2.out) (by rw [← HE.out]; exact HM3.out), S4.out⟩
            · have HN3 : Hid (¬ (mid < e ∧ e < b)) := c3
              clear c3
              have hn2 : (decide (a < s) = false ∧ ¬ (a : Int) < (s : Int)) ∨ (decide (a < s) = true ∧ (a : Int) < (s : Int) ∧ decide (s < mid) = false ∧ ¬ (s : Int) < (mid : Int)) := by
                by_cases hq : a < s
                · exact .inr ⟨decide_eq_true hq, by omega, decide_eq_false (by have := HN2.out; omega), by have := HN2.out; omega⟩
                · exact .inl ⟨decide_eq_false hq, by omega⟩
              rcases hn2 with ⟨hn2, hm2⟩ | ⟨hn2, hm2, hn2', hm2'⟩
              all_goals
                have hn3 : (decide (mid < e) = false ∧ ¬ (mid : Int) < (e : Int)) ∨ (decide (mid < e) = true ∧ (mid : Int) < (e : Int) ∧ decide (e < b) = false ∧ ¬ (e : Int) < (b : Int)) := by
                  by_cases hq : mid < e
                  · exact .inr ⟨decide_eq_true hq, by omega, decide_eq_false (by have := HN3.out; omega), by have := HN3.out; omega⟩
                  · exact .inl ⟨decide_eq_false hq, by omega⟩
                rcases hn3 with ⟨hn3, hm3⟩ | ⟨hn3, hm3, hn3', hm3'⟩
                all_goals
                  go_wp2
                  go_end0
                  exact ⟨rfl, d2, TT.out.join HP.out HR.out (by rw [← HE.out]; exact HM2.out) (HU.out.none (by have := HN3.out; have := HZ.out; have := HE.out; omega)), S3.out⟩
        · have HR : Hid (Rot d s m e d) := Lib.hid (Rot.none HZ.out.2.1 HZ.out.2.2.1 (by have := HZ.out; omega))
          have S2 := S1
          obtain ⟨d1, hd1⟩ : ∃ d1, d1 = d := ⟨d, rfl⟩
          rw [← hd1] at S2
          have HR1 : Hid (Rot d s m e d1) := by rw [hd1]; exact HR
          clear S1 HR hd1
          have HR := HR1
          clear HR1
          have HN1 : Hid (¬ (s < m ∧ m < e)) := c1
          clear c1
          have HL := Lib.hid (TT.out.lower HP.out HR.out)
          have Hs1 : Hid (d1.size = d.size) := HR.out.perm.1
          by_cases c2 : a < s ∧ s < mid
          · obtain ⟨c2a, c2b⟩ := c2
            have u3 : (a : Int) < (s : Int) := by omega
            have u4 : (s : Int) < (mid : Int) := by omega
            have d3' : decide ((a : Int) < (s : Int)) = true := decide_eq_true u3
            have d4' : decide ((s : Int) < (mid : Int)) = true := decide_eq_true u4
            clear c2a c2b
            have hn1 : (decide (s < m) = false ∧ ¬ (s : Int) < (m : Int)) ∨ (decide (s < m) = true ∧ (s : Int) < (m : Int) ∧ decide (m < e) = false ∧ ¬ (m : Int) < (e : Int)) := by
              by_cases hq : s < m
              · exact .inr ⟨decide_eq_true hq, by omega, decide_eq_false (by have := HN1.out; omega), by have := HN1.out; omega⟩
              · exact .inl ⟨decide_eq_false hq, by omega⟩
            rcases hn1 with ⟨hn1, hm1⟩ | ⟨hn1, hm1, hn1', hm1'⟩
            all_goals
              go_wp2_with fail
              refine (HI.out a s mid _ _ _ _ d1 _ (by have := HZ.out; have := HB.out; omega) (HB.out.2.2.2.2.trans Hs1.out.symm) S2.out rfl rfl (by omega) Hs1.out.symm (by rw [HE.out]; exact HL.out) (by omega) (by omega)).mono ?_
              rintro _ w4 ⟨rfl, d2, HM2, S3⟩
              clear S2
              have HU := Lib.hid (TT.out.upper HP.out HR.out (by rw [← HE.out]; exact HM2.out.1))
              have Hs2 : Hid (d2.size = d.size) := HM2.out.1.1.trans Hs1.out
              by_cases c3 : mid < e ∧ e < b
              · obtain ⟨c3a, c3b⟩ := c3
                have u5 : (mid : Int) < (e : Int) := by omega
                have u6 : (e : Int) < (b : Int) := by omega
                have d5' : decide ((mid : Int) < (e : Int)) = true := decide_eq_true u5
                have d6' : decide ((e : Int) < (b : Int)) = true := decide_eq_true u6
                clear c3a c3b
                go_wp2_with fail
                refine (HI.out mid e b _ _ _ _ d2 _ (by have := HZ.out; have := HB.out; have := HE.out; omega) (HB.out.2.2.2.2.trans Hs2.out.symm) S3.out rfl (by omega) rfl Hs2.out.symm (by have := HU.out; rw [← HE.out] at this; exact this) (by omega) (by omega)).mono ?_
                rintro _ w5 ⟨rfl, d3, HM3, S4⟩
                clear S3
                go_wp2
                go_end0
                exact ⟨rfl, d3, TT.out.join HP.out HR.out (by rw [← HE.out]; exact HM2.out) (by rw [← HE.out]; exact HM3.out), S4.out⟩
              · have HN3 : Hid (¬ (mid < e ∧ e < b)) := c3
                clear c3
                have hn3 : (decide (mid < e) = false ∧ ¬ (mid : Int) < (e : Int)) ∨ (decide (mid < e) = true ∧ (mid : Int) < (e : Int) ∧ decide (e < b) = false ∧ ¬ (e : Int) < (b : Int)) := by
                  by_cases hq : mid < e
                  · exact .inr ⟨decide_eq_true hq, by omega, decide_eq_false (by have := HN3.out; omega), by have := HN3.out; omega⟩
                  · exact .inl ⟨decide_eq_false hq, by omega⟩
                rcases hn3 with ⟨hn3, hm3⟩ | ⟨hn3, hm3, hn3', hm3'⟩
                all_goals
                  go_wp2
                  go_end0
                  exact ⟨rfl, d2, TT.out.join HP.out HR.out (by rw [← HE.out]; exact HM2.out) (HU.out.none (by have := HN3.out; have := HZ.out; have := HE.out; omega)), S3.out⟩
          · have HN2 : Hid (¬ (a < s ∧ s < mid)) := c2
            clear c2
            have S3 := S2
            obtain ⟨d2, hd2⟩ : ∃ d2, d2 = d1 := ⟨d1, rfl⟩
            rw [← hd2] at S3
            have HM2 : Hid (MPost d1 a mid d2) := by rw [hd2, HE.out]; exact HL.out.none (by have := HN2.out; have := HZ.out; have := HE.out; omega)
            clear S2 hd2
            have HU := Lib.hid (TT.out.upper HP.out HR.out (by rw [← HE.out]; exact HM2.out.1))
            have Hs2 : Hid (d2.size = d.size) := HM2.out.1.1.trans Hs1.out
            by_cases c3 : mid < e ∧ e < b
            · obtain ⟨c3a, c3b⟩ := c3
              have u5 : (mid : Int) < (e : Int) := by omega
              have u6 : (e : Int) < (b : Int) := by omega
              have d5' : decide ((mid : Int) < (e : Int)) = true := decide_eq_true u5
              have d6' : decide ((e : Int) < (b : Int)) = true := decide_eq_true u6
              clear c3a c3b
              have hn1 : (decide (s < m) = false ∧ ¬ (s : Int) < (m : Int)) ∨ (decide (s < m) = true ∧ (s : Int) < (m : Int) ∧ decide (m < e) = false ∧ ¬ (m : Int) < (e : Int)) := by
                by_cases hq : s < m
                · exact .inr ⟨decide_eq_true hq, by omega, decide_eq_false (by have := HN1.out; omega), by have := HN1.out; omega⟩
                · exact .inl ⟨decide_eq_false hq, by omega⟩
              rcases hn1 with ⟨hn1, hm1⟩ | ⟨hn1, hm1, hn1', hm1'⟩
              all_goals
                have hn2 : (decide (a < s) = false ∧ ¬ (a : Int) < (s : Int)) ∨ (decide (a < s) = true ∧ (a : Int) < (s : Int) ∧ decide (s < mid) = false ∧ ¬ (s : Int) < (mid : Int)) := by
                  by_cases hq : a < s
                  · exact .inr ⟨decide_eq_true hq, by omega, decide_eq_false (by have := HN2.out; omega), by have := HN2.out; omega⟩
                  · exact .inl ⟨decide_eq_false hq, by omega⟩
                rcases hn2 with ⟨hn2, hm2⟩ | ⟨hn2, hm2, hn2', hm2'⟩
                all_goals
                  go_wp2_with fail
                  refine (HI.out mid e b _ _ _ _ d2 _ (by have := HZ.out; have := HB.out; have := HE.out; omega) (HB.out.2.2.2.2.trans Hs2.out.symm) S3.out rfl (by omega) rfl Hs2.out.symm (by have := HU.out; rw [← HE.out] at this; exact this) (by omega) (by omega)).mono ?_
                  rintro _ w5 ⟨rfl, d3, HM3, S4⟩
                  clear S3
                  go_wp2
                  go_end0
                  exact ⟨rfl, d3, TT.out.join HP.out HR.out (by rw [← HE.out]; exact HM2.out) (by rw [← HE.out]; exact HM3.out), S4.out⟩
            · have HN3 : Hid (¬ (mid < e ∧ e < b)) := c3
              clear c3
              have hn1 : (decide (s < m) = false ∧ ¬ (s : Int) < (m : Int)) ∨ (decide (s < m) = true ∧ (s : Int) < (m : Int) ∧ decide (m < e) = false ∧ ¬ (m : Int) < (e : Int)) := by
                by_cases hq : s < m
                · exact .inr ⟨decide_eq_true hq, by omega, decide_eq_false (by have := HN1.out; omega), by have := HN1.out; omega⟩
                · exact .inl ⟨decide_eq_false hq, by omega⟩
              rcases hn1 with ⟨hn1, hm1⟩ | ⟨hn1, hm1, hn1', hm1'⟩
              all_goals
                have hn2 : (decide (a < s) = false ∧ ¬ (a : Int) < (s : Int)) ∨ (decide (a < s) = true ∧ (a : Int) < (s : Int) ∧ decide (s < mid) = false ∧ ¬ (s : Int) < (mid : Int)) := by
                  by_cases hq : a < s
                  · exact .inr ⟨decide_eq_true hq, by omega, decide_eq_false (by have := HN2.out; omega), by have := HN2.out; omega⟩
                  · exact .inl ⟨decide_eq_false hq, by omega⟩
                rcases hn2 with ⟨hn2, hm2⟩ | ⟨hn2, hm2, hn2', hm2'⟩
                all_goals
                  have hn3 : (decide (mid < e) = false ∧ ¬ (mid : Int) < (e : Int)) ∨ (decide (mid < e) = true ∧ (mid : Int) < (e : Int) ∧ decide (e < b) = false ∧ ¬ (e : Int) < (b : Int)) := by
                    by_cases hq : mid < e
                    · exact .inr ⟨decide_eq_true hq, by omega, decide_eq_false (by have := HN3.out; omega), by have := HN3.out; omega⟩
                    · exact .inl ⟨decide_eq_false hq, by omega⟩
                  rcases hn3 with ⟨hn3, hm3⟩ | ⟨hn3, hm3, hn3', hm3'⟩
                  all_goals
                    go_wp2
                    go_end0
                    exact ⟨rfl, d2, TT.out.join HP.out HR.out (by rw [← HE.out]; exact HM2.out) (HU.out.none (by have := HN3.out; have := HZ.out; have := HE.out; omega)), S3.out⟩
end Go.Proofs.Ytafmkalepgcnkaa
