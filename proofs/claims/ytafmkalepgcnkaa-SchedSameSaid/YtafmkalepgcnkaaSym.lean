/-
  The library's stable sort: the merge in place at whatever rows, by induction; the insertion sort of a range, by the shelf's contract.
-/
import Derived.Test.YtafmkalepgcnkaaSymOne
import Derived.Test.YtafmkalepgcnkaaSymLast
import Derived.Test.YtafmkalepgcnkaaSymMore
namespace Go.Proofs.Ytafmkalepgcnkaa
open Go.Shelf Go.RowKit Go.Lib Go.Sort
variable {P : Program}

theorem sym_all (k : Nat) (L : Lay P k) (enc : Pl → List Value) (g : Nat) (cb : Array Value) (blk off cap : Nat) (d0 : Array Pl) (w0 : World)
    (eg : ∀ args w, (callFunc g args).run P w = .ok (.enter g args) w) (hcmp : CmpLays P g cb enc k cmpP blk off d0.size w0) (R : RowK enc k w0 blk off d0) (hsz : d0.size ≤ 100000) : ∀ N, SymAt P k enc g cb blk off cap d0 w0 N
  | 0 => fun a m b A M B size d w hN => by omega
  | N + 1 => fun a m b A M B size d w hN hs S hA hM hB hz h ham hmb => by
    subst hA hM hB hz
    have ih := sym_all k L enc g cb blk off cap d0 w0 eg hcmp R hsz N
    by_cases h1 : m = a + 1
    · exact (symOne_gen k L enc g cb blk off cap a m b d0 d w0 w eg hcmp R hs S h h1 hmb (by omega)).mono fun _ _ ⟨he, d', h1, h2⟩ => ⟨he, d', h1, h2⟩
    · by_cases h2 : b = m + 1
      · exact (symLast_gen k L enc g cb blk off cap a m b d0 d w0 w eg hcmp R hs S h (by omega) h2 (by omega)).mono fun _ _ ⟨he, d', h1, h2⟩ => ⟨he, d', h1, h2⟩
      · have hI : SymAt P k enc g cb blk off cap d0 w0 (b - a) := fun a' m' b' A M B size d' w' hN' => ih a' m' b' A M B size d' w' (by omega)
        exact (symMore_gen k L enc g cb blk off cap a m b d0 d w0 w eg hcmp R hs S h (by omega) (by omega) (by omega) hI).mono fun _ _ ⟨he, d', h1, h2⟩ => ⟨he, d', h1, h2⟩

/-- The shelf's numbers at this program. -/
def ren : Ren := ⟨fun | 20 => 50 | n => n, fun | 22 => 76 | 24 => 79 | 25 => 83 | n => n, fun n => n⟩
theorem body50 : Try.f50 = { SlBodyF.n20 ren with name := Try.f50.name } := by kernel_rfl
theorem name50 : (Try.f50.name == "runtime.NumGoroutine") = false := by decide
theorem lay50 (k : Nat) (L : Lay P k) : SlLaysF0.n20 P ren :=
  { mixed := L.mixed, f20 := ⟨Try.f50.name, name50, L.f50.trans (congrArg some body50)⟩,
    t0 := L.t0, a0 := L.a0, z0 := L.z0, v0 := L.v0, t3 := L.t3, a3 := L.a3, z3 := L.z3, v3 := L.v3, t4 := L.t4, a4 := L.a4, z4 := L.z4, v4 := L.v4,
    t22 := L.t76, a22 := L.a76, z22 := L.z76, v22 := L.v76, t25 := L.t83, a25 := L.a83, z25 := L.z83, v25 := L.v83 }

theorem cmpLays_on {k : Nat} {enc : Pl → List Value} {g : Nat} {cb : Array Value} {cf : Pl → Pl → Int} {blk off : Nat} {d0 d : Array Pl} {w0 w : World}
    (hcmp : CmpLays P g cb enc k cf blk off d0.size w0) (R : RowK enc k w0 blk off d0) (hs : d0.size = d.size) (S : SWK enc k w0 blk off d w) : CmpLays P g cb enc k cf blk off d.size w := by
  intro m os dk hdk x y
  obtain ⟨n, os0, h⟩ := S.on R.hblk m dk os hdk
  rw [h]
  exact hcmp n os0 dk (by omega) x y

theorem insertion_at (k : Nat) (L : Lay P k) (enc : Pl → List Value) (g : Nat) (cb : Array Value) (blk off cap a b : Nat) (A B : Int) (size : Nat) (d0 d : Array Pl) (w0 w : World)
    (eg : ∀ args w, (callFunc g args).run P w = .ok (.enter g args) w) (hcmp : CmpLays P g cb enc k cmpP blk off d0.size w0) (R : RowK enc k w0 blk off d0) (hs : d0.size = d.size) (S : SWK enc k w0 blk off d w)
    (hA : A = a) (hB : B = b) (hz : size = d.size) (hab : a ≤ b) (hb : b ≤ d.size) (hsz : d.size ≤ 100000) (hasc : Asc a a b d) :
    Calls P 50 #[.slice (some ⟨blk, off, none⟩) size cap, .int .i64 A, .int .i64 B, .func (.func g) #[] cb] w fun e w' => e = .returned (.tuple #[]) ∧ ∃ d', Hid (MPost d a b d') ∧ Aside (SWK enc k w0 blk off d' w') := by
  subst hA hB hz
  have h := AnyQ.insertionSortCmpFunc (lay50 k L) k L.aE L.zE enc R.hk R.h1 cmpP g cb blk off cap a b d w eg (cmpLays_on hcmp R hs S) (S.holds R.hblk R.hH (by omega)) (S.lt R.hblk) hab hb (by omega)
  have hp : MPost d a b (insertionSort ltP d a b) := ins_sorts a b d hab hb hasc
  exact h.mono fun e w' ⟨he, n, os, hw⟩ => ⟨he, _, hp, by rw [hw]; exact S.on R.hblk n _ os hp.1.1⟩

end Go.Proofs.Ytafmkalepgcnkaa
