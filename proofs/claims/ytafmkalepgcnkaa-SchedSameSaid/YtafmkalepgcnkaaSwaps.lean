/-
  The library's stable sort over rows of k cells: what it leans on, and the exchange of two ranges (slices.swapRangeCmpFunc), walked once over any program that holds its text.
-/
import Derived.Test.YtafmkalepgcnkaaMerge
import Derived.Test.YtafmkalepgcnkaaProg
import Derived.Shelf.SlSortCmp.KitK
import Derived.Sort.WalkB2
import Derived.Sort.WalkB12
import Derived.Deep.LoopGhost
import Derived.BigRegion
import Derived.Lib.Hide
namespace Go.Proofs.Ytafmkalepgcnkaa
open Go.Shelf Go.RowKit Go.Lib Go.Sort

/-- What the sort's text leans on: the bodies, the types, the elements' size. -/
structure Lay (P : Program) (k : Nat) : Prop where
  mixed : P.follows .mixedOrders = true
  f48 : P.funcs[48]? = some Try.f48
  f50 : P.funcs[50]? = some Try.f50
  f51 : P.funcs[51]? = some Try.f51
  f52 : P.funcs[52]? = some Try.f52
  f53 : P.funcs[53]? = some Try.f53
  t0 : P.underlying 0 = some (TypeDesc.tuple #[])
  a0 : ∀ w, (isAgg 0).run P w = .ok false w
  z0 : ∀ w, (Go.sizeOf 0).run P w = .ok 1 w
  v0 : ∀ w, (zeroValue 0).run P w = .ok (Value.tuple #[]) w
  t3 : P.underlying 3 = some (TypeDesc.int IntKind.i64)
  a3 : ∀ w, (isAgg 3).run P w = .ok false w
  z3 : ∀ w, (Go.sizeOf 3).run P w = .ok 1 w
  v3 : ∀ w, (zeroValue 3).run P w = .ok (Value.int IntKind.i64 0) w
  t4 : P.underlying 4 = some (TypeDesc.bool)
  a4 : ∀ w, (isAgg 4).run P w = .ok false w
  z4 : ∀ w, (Go.sizeOf 4).run P w = .ok 1 w
  v4 : ∀ w, (zeroValue 4).run P w = .ok (Value.bool false) w
  t76 : P.underlying 76 = some (TypeDesc.slice 79)
  a76 : ∀ w, (isAgg 76).run P w = .ok false w
  z76 : ∀ w, (Go.sizeOf 76).run P w = .ok 1 w
  v76 : ∀ w, (zeroValue 76).run P w = .ok (Value.slice none 0 0) w
  t83 : P.underlying 83 = some (TypeDesc.func #[79, 79] #[3] false)
  a83 : ∀ w, (isAgg 83).run P w = .ok false w
  z83 : ∀ w, (Go.sizeOf 83).run P w = .ok 1 w
  v83 : ∀ w, (zeroValue 83).run P w = .ok (Value.nilFunc) w
  t89 : P.underlying 89 = some (TypeDesc.int IntKind.u64)
  a89 : ∀ w, (isAgg 89).run P w = .ok false w
  z89 : ∀ w, (Go.sizeOf 89).run P w = .ok 1 w
  v89 : ∀ w, (zeroValue 89).run P w = .ok (Value.int IntKind.u64 0) w
  aE : ∀ w, (isAgg 79).run P w = .ok true w
  zE : ∀ w, (Go.sizeOf 79).run P w = .ok k w

variable {P : Program}

set_option maxHeartbeats 4000000 in
set_option maxRecDepth 1000000 in
theorem swapRange_gen (k : Nat) (L : Lay P k) (enc : Pl → List Value) (g : Nat) (cb : Array Value) (blk off cap a b n : Nat) (d0 d : Array Pl) (w0 w : World)
    (R : RowK enc k w0 blk off d0) (hs : d0.size = d.size) (S : SWK enc k w0 blk off d w) (hab : a + n ≤ b) (hb : b + n ≤ d.size) (hsz : d.size ≤ 100000) :
    Calls P 53 #[.slice (some ⟨blk, off, none⟩) d.size cap, .int .i64 a, .int .i64 b, .int .i64 n, .func (.func g) #[] cb] w fun e w' => e = .returned (.tuple #[]) ∧ SWK enc k w0 blk off (swapR d a b n) w' := by
  have mixed := L.mixed; have t0 := L.t0; have a0 := L.a0; have z0 := L.z0; have v0 := L.v0; have t3 := L.t3; have a3 := L.a3; have z3 := L.z3; have v3 := L.v3; have t4 := L.t4; have a4 := L.a4; have z4 := L.z4; have v4 := L.v4; have t76 := L.t76; have a76 := L.a76; have z76 := L.z76; have v76 := L.v76; have t83 := L.t83; have a83 := L.a83; have z83 := L.z83; have v83 := L.v83
  have aE := L.aE; have zE := L.zE
  have F := L.f53
  have S0 : Aside (SWK enc k w0 blk off d w) := S
  clear S
  go_enter F, Try.ntmps53
  go_wp2
  go_loopg [10] n (fun kx s10 wr => ∃ (i : Nat) (dk : Array Pl), s10 = .int .i64 i ∧ i ≤ n ∧ n - i ≤ kx ∧ dk.size = d.size ∧ Aside (SWK enc k w0 blk off dk wr) ∧ Hid (dk = swapR d a b i))
  case atStart => exact ⟨0, d, rfl, Nat.zero_le _, by omega, rfl, S0, rfl⟩
  case round =>
    clear S0
    obtain ⟨i, dk, rfl, hi, hkx, hds, S1, heq⟩ := hrel
    by_cases hlt : i < n
    · have hlt' : (i : Int) < (n : Int) := by omega
      have ea44 : ((a : Int) + (i : Int)).toNat = a + i := by omega
      have pa44 : (0 : Int) ≤ (a : Int) + (i : Int) := by omega
      have ba44 : (a : Int) + (i : Int) < (d.size : Int) := by omega
      have ra44 : IntKind.i64.wrap ((a : Int) + (i : Int)) = (a : Int) + (i : Int) := by rw [IntKind.wrap_i64]; omega
      have ec44 : ((b : Int) + (i : Int)).toNat = b + i := by omega
      have pc44 : (0 : Int) ≤ (b : Int) + (i : Int) := by omega
      have bc44 : (b : Int) + (i : Int) < (d.size : Int) := by omega
      have rc44 : IntKind.i64.wrap ((b : Int) + (i : Int)) = (b : Int) + (i : Int) := by rw [IntKind.wrap_i64]; omega
      have S2 : Aside (SWK enc k w0 blk off (swp dk (a + i) (b + i)) ((wr.drew.setCells blk (off + (a + i) * k) (enc dk[b + i]!)).setCells blk (off + (b + i) * k) (enc dk[a + i]!))) := S1.out.swapped R (a + i) (b + i) (by omega) (by omega)
      have l44a := S1.out.ld1 R (by omega) P (a + i) (by omega)
      have l44b := S1.out.ld1 R (by omega) P (b + i) (by omega)
      have s44a := S1.out.st1 R (by omega) P (a + i) (by omega) dk[b + i]!
      have s44b := S1.out.st2 R (by omega) P (a + i) (b + i) (by omega) (by omega) dk[b + i]! dk[a + i]!
      have n44a : (enc dk[a + i]!).length = k := R.hk _
      have n44b : (enc dk[b + i]!).length = k := R.hk _
      have heq2 : Hid (swp dk (a + i) (b + i) = swapR d a b (i + 1)) := by show _ = _; rw [heq.out]; rfl
      generalize enc dk[a + i]! = cI44 at S2 l44a s44b n44a
      generalize enc dk[b + i]! = cJ44 at S2 l44b s44a s44b n44b
      clear S1
      go_wp2_with fail
      go_big_region_o
      clear l44a l44b s44a s44b
      generalize (wr.drew.setCells blk (off + (a + i) * k) cJ44).setCells blk (off + (b + i) * k) cI44 = w2 at S2 ⊢
      go_wp2
      go_roundg (n - (i + 1))
      case measure => omega
      case rel =>
        exact ⟨i + 1, swp dk (a + i) (b + i), by go_num, by omega, by omega, by rw [size_swp]; exact hds, S2, heq2⟩
    · obtain rfl : i = n := by omega
      go_wp2
      go_end0
      exact ⟨rfl, by rw [← heq.out]; exact S1.out⟩
end Go.Proofs.Ytafmkalepgcnkaa
