/- Plain functions on the texts of blocks. No program in sight. -/
import Derived.Test.YtheafiaemcmjaaaDoorPureTx
import Derived.Test.YtheafiaemcmjaaaDoorPureBl
import Derived.Lib.Join
namespace Go.Proofs.YtheafiaemcmjaaaDoor
/-- what stands ahead of the cell k -/
def sepAt (S k : Nat) : List UInt8 := if k = 0 then [] else if k % S = 0 then [59] else [44]
/-- the text of the first k cells -/
def bTx (S : Nat) (f : Nat → Nat → Int) : Nat → List UInt8
  | 0 => []
  | k + 1 => bTx S f k ++ sepAt S k ++ cellTx (f k)
def blockTx (s : Int) (n : Nat) (f : Nat → Nat → Int) : List UInt8 := if blockOk s n f then bTx s.toNat f n else []
theorem blockTx_no {s : Int} {n : Nat} {f : Nat → Nat → Int} (h : blockOk s n f = false) : blockTx s n f = [] := by unfold blockTx; rw [h]; rfl
theorem sepAt_len (S k : Nat) : (sepAt S k).length ≤ 1 := by
  unfold sepAt; split
  · simp
  · split <;> simp
theorem bTx_len (S : Nat) (f : Nat → Nat → Int) (k : Nat) : (bTx S f k).length ≤ 4 * k := by
  induction k with
  | zero => simp [bTx]
  | succ k ih =>
    have h1 := sepAt_len S k
    have h2 := cellTx_len (f k)
    simp only [bTx, List.length_append]
    omega
/-- the first n texts with separators between -/
def joinTo (g : Nat → List UInt8) (sep : List UInt8) : Nat → List UInt8
  | 0 => []
  | n + 1 => joinTo g sep n ++ (if n = 0 then [] else sep) ++ g n
theorem join_snoc (sep : List UInt8) (xs : List (List UInt8)) (x : List UInt8) : Lib.join (xs ++ [x]) sep = Lib.join xs sep ++ (if xs.length = 0 then [] else sep) ++ x := by
  cases xs with
  | nil => simp [Lib.join_one, Lib.join_nil]
  | cons y r =>
    rw [List.cons_append, Lib.join_cons, Lib.join_cons]
    simp [Lib.joinTail, List.append_assoc]
theorem join_to (g : Nat → List UInt8) (sep : List UInt8) (n : Nat) : Lib.join ((List.range n).map g) sep = joinTo g sep n := by
  induction n with
  | zero => rfl
  | succ n ih =>
    rw [List.range_succ, List.map_append, List.map_cons, List.map_nil, join_snoc, ih]
    simp [joinTo]
theorem joinTo_len {g : Nat → List UInt8} {sep : List UInt8} {m : Nat} (hs : sep.length = 1) : ∀ n, (∀ i, i < n → (g i).length ≤ m) → (joinTo g sep n).length ≤ (m + 1) * n := by
  intro n
  induction n with
  | zero => intro _; simp [joinTo]
  | succ n ih =>
    intro h
    have h1 := ih fun i hi => h i (by omega)
    have h2 := h n (by omega)
    simp only [joinTo, List.length_append, Nat.mul_succ]
    split
    · simp; omega
    · omega
def rowTx (S : Nat) (f : Nat → Nat → Int) (y : Nat) : List UInt8 := joinTo (fun x => cellTx (f (y * S + x))) [44] S
theorem rowTx_len {S : Nat} (h : S ≤ 4) (f : Nat → Nat → Int) (y : Nat) : (rowTx S f y).length ≤ 16 := by
  have := joinTo_len (g := fun x => cellTx (f (y * S + x))) (sep := [44]) (m := 3) rfl S fun i _ => cellTx_len _
  unfold rowTx
  omega
theorem rows_bTx {S : Nat} (h1 : 1 ≤ S) (h4 : S ≤ 4) (f : Nat → Nat → Int) : joinTo (rowTx S f) [59] S = bTx S f (S * S) := by
  rcases (by omega : S = 1 ∨ S = 2 ∨ S = 3 ∨ S = 4) with e | e | e | e <;> subst e
  all_goals simp [rowTx, joinTo, bTx, sepAt, List.append_assoc]
end Go.Proofs.YtheafiaemcmjaaaDoor
