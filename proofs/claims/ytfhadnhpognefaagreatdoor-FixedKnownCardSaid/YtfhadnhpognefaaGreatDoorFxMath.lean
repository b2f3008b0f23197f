/- What the functions of the chapter 'fixed' come to, as plain functions on whole numbers and lists of bytes; no program is in sight. -/
import Derived.Lib.ItoaNum
import Derived.RowKit
namespace Go.Proofs.YtfhadnhpognefaaGreatDoor.Fx
open Go Go.RowKit

/-! ### Numbers of 64 bits -/
def inI (n : Int) : Bool := decide (-9223372036854775808 ≤ n) && decide (n ≤ 9223372036854775807)
/-- A number, or 'it runs over' (error 10). -/
def flow (n : Int) : Int × Int := if inI n = true then (n, 0) else (0, 10)

theorem inI_iff (n : Int) : inI n = true ↔ -9223372036854775808 ≤ n ∧ n ≤ 9223372036854775807 := by
  unfold inI; simp
theorem flow_in {n : Int} (h0 : -9223372036854775808 ≤ n) (h1 : n ≤ 9223372036854775807) : flow n = (n, 0) := by
  unfold flow; rw [if_pos ((inI_iff n).2 ⟨h0, h1⟩)]
theorem flow_over {n : Int} (h : n < -9223372036854775808 ∨ 9223372036854775807 < n) : flow n = (0, 10) := by
  unfold flow; rw [if_neg]; rw [inI_iff]; omega

/-! ### Quotients -/
def sgn (a b c : Int) : Bool := (decide (a < 0) != decide (b < 0)) != decide (c < 0)
def upQ (round neg : Bool) (r d : Nat) : Bool := if round = true then decide (d ≤ 2 * r) else (neg && decide (0 < r))
def magQ (a b c : Int) (round : Bool) : Nat :=
  a.natAbs * b.natAbs / c.natAbs + (if upQ round (sgn a b c) (a.natAbs * b.natAbs % c.natAbs) c.natAbs = true then 1 else 0)
def withSign (neg : Bool) (q : Nat) : Int := if neg = true then -(q : Int) else (q : Int)
def quot (a b c : Int) (round : Bool) : Int × Int :=
  if c = 0 then (0, 2) else flow (withSign (sgn a b c) (magQ a b c round))

/-! ### Decimals: printing -/
def frac : Nat → Nat → List UInt8
  | 0, _ => []
  | k + 1, r => if r = 0 then [] else UInt8.ofNat (48 + r * 10 / 65536) :: frac k (r * 10 % 65536)
def sign (n : Int) : List UInt8 := if n < 0 then [45] else []
def point (r : Nat) : List UInt8 := if r = 0 then [] else 46 :: frac 16 r
def print (n : Int) : List UInt8 := sign n ++ Lib.decDigits (n.natAbs / 65536) ++ point (n.natAbs % 65536)

/-! ### Decimals: reading -/
def isDig (c : UInt8) : Bool := decide (48 ≤ c.toNat) && decide (c.toNat ≤ 57)
def allDig (l : List UInt8) : Bool := !l.isEmpty && l.all isDig
def val10 (l : List UInt8) : Nat := l.foldl (fun n c => n * 10 + (c.toNat - 48)) 0
/-- What stands ahead of the first c, and what behind it (none: there is no c). -/
def cutAt (c : UInt8) : List UInt8 → List UInt8 × Option (List UInt8)
  | [] => ([], none)
  | x :: l => if x = c then ([], some l) else ((x :: (cutAt c l).1), (cutAt c l).2)
def negOf (s : List UInt8) : Bool := s.head? == some 45
def restOf (s : List UInt8) : List UInt8 := if negOf s = true then s.tail else s
def wholeOf (s : List UInt8) : List UInt8 := (cutAt 46 (restOf s)).1
def partOf (s : List UInt8) : List UInt8 := (cutAt 46 (restOf s)).2.getD []
def pointOf (s : List UInt8) : Bool := (cutAt 46 (restOf s)).2.isSome
def goodText (s : List UInt8) : Bool := decide (s.length ≤ 40) && allDig (wholeOf s) && (!pointOf s || allDig (partOf s))
/-- The number of scaled points, rounded, whatever its sign. -/
def magR (w p : List UInt8) : Nat :=
  val10 (w ++ p) * 65536 / 10 ^ p.length + (if 10 ^ p.length ≤ 2 * (val10 (w ++ p) * 65536 % 10 ^ p.length) then 1 else 0)
def read (s : List UInt8) : Int × Int :=
  if goodText s = true then flow (withSign (negOf s) (magR (wholeOf s) (partOf s))) else (0, 2)
end Go.Proofs.YtfhadnhpognefaaGreatDoor.Fx
