/- The contracts of OneThread, their results named. -/
import Derived.Test.YtkgabnhfjmldbaaOneS
namespace Go.Proofs.Ytkgabnhfjmldbaa
open Go.ChangeShapes Go.WideShapes Go.ChangeAt Go.RowKit
theorem spec_oneR (n : Int) (A : Option Addr) (l c : Nat) (f : Nat → Nat → Int) (R : List Int) (b : Bool) (B : Nat) (w : World) (h : RowP 2 w B A l c f) (hB : B ≤ w.heap.size) (hR : Hid (R = oneW n l f)) (hb : Hid (b = oneTh n l f)) :
    Calls Try.prog 11 #[.int .i64 n, .slice A l c] w fun e w' => ∃ A2 c2, e = .returned (.tuple #[.slice A2 R.length c2, .bool b]) ∧ OwnI w' w.heap.size (.slice A2 R.length c2) R ∧ Below w.heap.size w w' := by
  have h1 := hR.out
  have h2 := hb.out
  subst h1
  subst h2
  exact spec_one n A l c f B w h hB
theorem impl_oneR (n : Int) (A : Option Addr) (l c : Nat) (f : Nat → Nat → Int) (R : List Int) (b : Bool) (B : Nat) (w : World) (h : RowP 2 w B A l c f) (hB : B ≤ w.heap.size) (hR : Hid (R = oneW n l f)) (hb : Hid (b = oneTh n l f)) :
    Calls Try.prog 12 #[.int .i64 n, .slice A l c] w fun e w' => ∃ A2 c2, e = .returned (.tuple #[.slice A2 R.length c2, .bool b]) ∧ OwnI w' w.heap.size (.slice A2 R.length c2) R ∧ Below w.heap.size w w' := by
  have h1 := hR.out
  have h2 := hb.out
  subst h1
  subst h2
  exact impl_one n A l c f B w h hB
end Go.Proofs.Ytkgabnhfjmldbaa
