/-
  Package sched: Spread, walked.
-/
import Derived.Test.YtafmkalepgcnkaaOrders
namespace Go.Proofs.Ytafmkalepgcnkaa
open Go.RowKit Go.Sort

/-- How much room the path has. -/
def room (rooms : List Int) (p : Pl) : Nat := if (rooms.length : Int) ≤ p.pos then 0 else (rooms[p.pos.toNat]?.getD 0).toNat
/-- One path more, of m datagrams in all. -/
def sprF (rooms : List Int) (m : Nat) (out : List Int) (p : Pl) : List Int := out ++ List.replicate (min (room rooms p) (m - out.length)) p.ch.id
/-- By which paths they go. -/
def spr (rooms : List Int) (m : Nat) (s : List Pl) : List Int := s.foldl (sprF rooms m) []
theorem spr_take (rooms : List Int) (m : Nat) (s : List Pl) (k : Nat) (p : Pl) (h : s[k]? = some p) : spr rooms m (s.take (k + 1)) = spr rooms m (s.take k) ++ List.replicate (min (room rooms p) (m - (spr rooms m (s.take k)).length)) p.ch.id := by
  unfold spr
  rw [List.take_add_one, h, List.foldl_append]; rfl
theorem foldl_le (rooms : List Int) (m : Nat) : ∀ (s : List Pl) (out : List Int), out.length ≤ m → (s.foldl (sprF rooms m) out).length ≤ m
  | [], _, h => h
  | p :: s, out, h => foldl_le rooms m s _ (by unfold sprF; rw [List.length_append, List.length_replicate]; omega)
theorem spr_le (rooms : List Int) (m : Nat) (s : List Pl) : (spr rooms m s).length ≤ m := foldl_le rooms m s [] (Nat.zero_le _)
theorem rep_succ (j : Nat) (x : Int) (out : List Int) : out ++ List.replicate (j + 1) x = (out ++ List.replicate j x) ++ [x] := by
  rw [List.replicate_succ', List.append_assoc]

theorem own_rebase {w : World} {B B' e size n : Nat} {v : Value} {xs : List Value} (h : w.ownsRow B e size v n xs) (hB : B' ≤ B) : w.ownsRow B' e size v n xs := by
  refine ⟨h.1, ?_⟩
  rcases h.2 with hn | ⟨g, cap, cur, hv, hb, rest⟩
  · exact .inl hn
  · exact .inr ⟨g, cap, cur, hv, Nat.le_trans hB hb, rest⟩

set_option maxHeartbeats 8000000 in
set_option maxRecDepth 100000 in
theorem spread_any (g gr : Option Addr) (c cr : Nat) (l : List Ch) (rooms : List Int) (many : Int) (m : Nat) (w : World) (h : ChIn w g l) (hr : RowIn w gr rooms) (h60 : l.length ≤ 60) (hrl : rooms.length ≤ 100) (hm : mn2 (mx2 many 0) 200 = (m : Int)) (hm2 : m ≤ 200) :
    Calls Try.prog 38 #[.slice g l.length c, .slice gr rooms.length cr, .int .i64 many] w (ListPost w.heap.size (spr rooms m (srt l)) (spr rooms m (srt l)).length w) := by
  obtain ⟨i0, hi, hz0, hz1, hz2⟩ := info_parts Try.info3
  have hsl := srt_length l
  have h60z : ((srt l).length : Int) ≤ 60 := by omega
  have hrlz : (rooms.length : Int) ≤ 100 := by omega
  have hm2z : (m : Int) ≤ 200 := by omega
  have hS := sorted_any g c l w h h60
  have HS : Aside _ := hS
  have HU : Hid (∀ s, Srt l s → s = srt l) := Lib.hid fun s hs => srt_eq hs
  have HPOS : Hid (∀ (k : Nat) (p : Pl), (srt l)[k]? = some p → ∃ x : Nat, p.pos = x) := Lib.hid fun k p hk => by
    obtain ⟨x, hx, _⟩ := (srt_ok l).at hk
    exact ⟨x, hx⟩
  have HSL := Lib.hid hsl
  have hmx := run_mx
  have hmn := run_mn
  clear hS h hsl
  generalize srt l = s at *
  go_enter Try.func38, Try.ntmps38
  go_wp2_with fail
  refine Calls.mono (P := Try.prog) HS.out ?_
  rintro e w1 ⟨s', g', c', rfl, hs, hrow, hb1⟩
  obtain rfl : s = s' := (HU.out s' hs).symm
  have hr1 := hr.later hb1
  clear hs HS HU hr hm
  go_wp2_with fail
  go_loopw [7, 8, 18] (fun v t8 t wr => ∃ (k lf : Nat), k ≤ s.length ∧ t = .int .i64 k ∧ t8 = .int .i64 lf ∧ Hid (lf + (spr rooms m (s.take k)).length = m) ∧ wr.ownsRow w1.heap.size 3 1 v (spr rooms m (s.take k)).length ((spr rooms m (s.take k)).map (Value.int .i64)) ∧ Below w1.heap.size w1 wr) (fun _ _ t _ => s.length - (intOf t).toNat)
  case atStart => exact ⟨0, m, Nat.zero_le _, rfl, rfl, Lib.hid (Nat.add_zero m), World.ownsRow_nil _ _ _ _, Below.refl _ _⟩
  case round =>
    obtain ⟨k, lf, hk, rfl, rfl, HLF, hown, hb⟩ := hrel
    have hsz := hb.size
    have hlfz : (lf : Int) ≤ 200 := by have := HLF.out; omega
    by_cases hlt : k < s.length
    · have hltz : (k : Int) < (s.length : Int) := by omega
      obtain ⟨b, i1, p1, q1, r1, a1, hg', hsk, _, d0, d1, d2, d3, d4⟩ := (hrow.later hb).get hlt
      subst hg'
      obtain ⟨x, hx⟩ := HPOS.out k _ hsk
      have hx : a1 = (x : Int) := hx
      subst hx
      have HT := Lib.hid (spr_take rooms m s k _ hsk)
      obtain ⟨O, hO⟩ : ∃ O, spr rooms m (s.take k) = O := ⟨_, rfl⟩
      rw [hO] at hown
      have HO := Lib.hid hO
      have HLF2 : Hid (lf + O.length = m) := by rw [← hO]; exact HLF
      have HT2 : Hid (spr rooms m (s.take (k + 1)) = O ++ List.replicate (min (room rooms ⟨⟨i1, p1, q1, r1⟩, (x : Int)⟩) lf) i1) := Lib.hid (by
        rw [HT.out, hO, show m - O.length = lf by have := HLF2.out; omega])
      clear hO HT HLF HO
      have hbx : PlRow (wr.alloc (.cells #[.int .i64 i1, .int .i64 p1, .int .i64 q1, .bool r1, .int .i64 (x : Int)] 79)) (some ⟨wr.heap.size, 0, none⟩) [⟨⟨i1, p1, q1, r1⟩, (x : Int)⟩] := .inr ⟨_, _, rfl, heap_alloc_new wr _, fun i p hi j hj => by
        match i, hi with
        | 0, hi =>
          simp only [List.getElem?_cons_zero, Option.some.injEq] at hi
          subst hi
          rw [Nat.zero_mul, Nat.zero_add]
          match j, hj with
          | 0, _ => rfl
          | 1, _ => rfl
          | 2, _ => rfl
          | 3, _ => rfl
          | 4, _ => rfl⟩
      have hbA := hb.alloc hsz (.cells #[.int .i64 i1, .int .i64 p1, .int .i64 q1, .bool r1, .int .i64 (x : Int)] 79)
      have hownA := hown.alloc (.cells #[.int .i64 i1, .int .i64 p1, .int .i64 q1, .bool r1, .int .i64 (x : Int)] 79)
      by_cases hxr : rooms.length ≤ x
      · have hxz : (rooms.length : Int) ≤ (x : Int) := by omega
        have HT3 : Hid (spr rooms m (s.take (k + 1)) = O) := Lib.hid (by
          rw [HT2.out]; unfold room; rw [if_pos (by exact hxz)]; simp)
        clear HT2 hown hb hbx
        go_wp2
        go_roundw
        case rel => exact ⟨k + 1, lf, by omega, by go_num, rfl, by rw [HT3.out]; exact HLF2, by rw [HT3.out]; exact hownA, hbA⟩
        case measure => simp [intOf]; omega
      · have hxz : (x : Int) < (rooms.length : Int) := by omega
        have hxn : ¬ (rooms.length : Int) ≤ (x : Int) := by omega
        obtain ⟨bq, oq, hgq, hcq⟩ := (hr1.later hbA).get (show x < rooms.length by omega)
        obtain ⟨r, hrr⟩ : ∃ r, rooms[x]?.getD 0 = r := ⟨_, rfl⟩
        rw [hrr] at hcq
        obtain ⟨nn, hnn⟩ : ∃ nn : Nat, min (room rooms ⟨⟨i1, p1, q1, r1⟩, (x : Int)⟩) lf = nn := ⟨_, rfl⟩
        have hroom : room rooms ⟨⟨i1, p1, q1, r1⟩, (x : Int)⟩ = r.toNat := by unfold room; rw [if_neg (by exact hxn)]; simp only [Int.toNat_natCast]; rw [hrr]
        have hnz : mn2 (mx2 r 0) (lf : Int) = (nn : Int) := by rw [← hnn, hroom]; unfold mn2 mx2; omega
        have hnl : nn ≤ lf := by omega
        rw [hnn] at HT2
        have hnz2 : (nn : Int) ≤ (lf : Int) := by omega
        have HLN : Hid (nn ≤ lf ∧ lf + O.length = m) := ⟨hnl, HLF2.out⟩
        subst hgq
        clear hroom hrr hnn hown hb hnl
        go_wp2_with fail
        clear hnz hcq d0 d1 d2 d3 d4
        obtain ⟨wo, rfl⟩ : ∃ wo : World, wo = wr := ⟨_, rfl⟩
        go_loopw [7, 36] (fun v t wj => ∃ j : Nat, j ≤ nn ∧ t = .int .i64 j ∧ wj.ownsRow w1.heap.size 3 1 v (O ++ List.replicate j i1).length ((O ++ List.replicate j i1).map (Value.int .i64)) ∧ PlRow wj (some ⟨wo.heap.size, 0, none⟩) [⟨⟨i1, p1, q1, r1⟩, (x : Int)⟩] ∧ Below w1.heap.size w1 wj) (fun _ t _ => nn - (intOf t).toNat)
        case atStart => exact ⟨0, Nat.zero_le _, rfl, by simpa using hownA, hbx, hbA⟩
        case round =>
          clear hownA hbx hbA
          obtain ⟨j, hj, rfl, hown, hbx, hb⟩ := hrel
          have hszj := hb.size
          by_cases hlt2 : j < nn
          · have hlt2z : (j : Int) < (nn : Int) := by omega
            obtain ⟨b', j1, k1, l1, r1', a1', hgb, hsb, _, d0, d1, d2, d3, d4⟩ := hbx.get (show 0 < [(⟨⟨i1, p1, q1, r1⟩, (x : Int)⟩ : Pl)].length by simp)
            simp only [Option.some.injEq, Addr.mk.injEq, and_true, List.getElem?_cons_zero, Pl.mk.injEq, Ch.mk.injEq] at hgb hsb
            obtain ⟨⟨rfl, rfl, rfl, rfl⟩, rfl⟩ := hsb
            subst hgb
            simp only [Nat.zero_mul, Nat.zero_add] at d0 d1 d2 d3 d4
            have hbig : (O ++ List.replicate j i1).length + 1 ≤ 1000 := by
              have := HLN.out; rw [List.length_append, List.length_replicate]; omega
            have HREP := Lib.hid (rep_succ j i1 O)
            obtain ⟨Q, hQ⟩ : ∃ Q, O ++ List.replicate j i1 = Q := ⟨_, rfl⟩
            rw [hQ] at hown hbig HREP
            clear hQ
            go_wp2_with (at_builtin; refine wpList_append_own _ rfl _ _ 23 rfl w1.heap.size 3 i0 (.int .i64 0) 1 8 Try.underlying23 hi hz0 hz1 hz2 rfl (by decide) _ _ _ rfl (hown.alloc _) ⟨wr.heap.size, 0, none⟩ 1 1 [.int .i64 i1] rfl rfl ?k1 ?k2 ?k3 ?k4 ?k5 ?_)
            case k1 =>
              intro j u hj
              match j, hj with
              | 0, hj => simp at hj; subst hj; simp [Addr.add]
            case k2 => intro u hu; simp at hu; subst hu; rfl
            case k3 => unfold maxLen; omega
            case k4 => omega
            case k5 => simp; omega
            intro v' w3 hown' hgrow _
            have hbx3 := (hbx.later ((Below.refl _ _).alloc (Nat.le_refl _) (.cells #[.int .i64 i1] 3))).past (hown.alloc _) hgrow
            have hb3 := (hb.alloc hszj (.cells #[.int .i64 i1] 3)).grown hgrow (by simp; omega) (fun j hj => (hown.lt j hj).1)
            clear hown hgrow hb hbx d0 d1 d2 d3 d4
            go_wp2
            go_roundw
            case rel => exact ⟨j + 1, by omega, by go_num, by rw [HREP.out, List.length_append, List.map_append]; exact hown', hbx3, hb3⟩
            case measure => simp [intOf]; omega
          · obtain rfl : j = nn := by omega
            rw [← HT2.out] at hown
            have HLF3 : Hid ((lf - j) + (spr rooms m (s.take (k + 1))).length = m) := Lib.hid (by
              rw [HT2.out, List.length_append, List.length_replicate]; have := HLN.out; omega)
            clear hbx
            go_wp2
            go_roundw
            case rel => exact ⟨k + 1, lf - j, by omega, by go_num, by congr 1; omega, HLF3, hown, hb⟩
            case measure => simp [intOf]; omega
    · obtain rfl : k = s.length := by omega
      rw [List.take_length] at hown
      have hbw : Below w.heap.size w wr := hb1.trans (hb.mono hb1.size)
      go_wp2
      go_ret
      exact list_post (own_rebase hown hb1.size) hbw
end Go.Proofs.Ytafmkalepgcnkaa
