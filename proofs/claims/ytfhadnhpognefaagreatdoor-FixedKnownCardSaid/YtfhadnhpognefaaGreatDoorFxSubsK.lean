/- Contracts of the program's own functions, and of its laws, in the form of the printed ones: for FixedKnown. -/
import Derived.Test.YtfhadnhpognefaaGreatDoorFxSubs
import Derived.Test.YtfhadnhpognefaaGreatDoorFxReadsLaw
import Derived.Test.YtfhadnhpognefaaGreatDoorFxLaws
import Derived.Test.YtfhadnhpognefaaGreatDoorFxNear
import Derived.Test.YtfhadnhpognefaaGreatDoorFxPrints
namespace Go.Proofs.YtfhadnhpognefaaGreatDoor.PRef
open Go Go.RowKit Go.Proofs.YtfhadnhpognefaaGreatDoorW.PrintWords Go.Proofs.YtfhadnhpognefaaGreatDoor.Fx

def in64 (n : Int) : Bool := decide (-9223372036854775808 ≤ n) && decide (n ≤ 9223372036854775807)
def in32 (n : Int) : Bool := decide (-2147483648 ≤ n) && decide (n ≤ 2147483647)
def inU16 (n : Int) : Bool := decide (0 ≤ n) && decide (n ≤ 65535)
def given {α : Type} (c : Bool) (r : α) : Option α := match c with
  | true => some r
  | false => none
theorem given_some {α : Type} {c : Bool} {r x : α} (h : given c r = some x) : c = true ∧ r = x := by
  cases c with
  | true => exact ⟨rfl, Option.some.inj h⟩
  | false => cases h
theorem in64_iff {n : Int} (h : in64 n = true) : -9223372036854775808 ≤ n ∧ n ≤ 9223372036854775807 := by unfold in64 at h; simpa using h
theorem in32_iff {n : Int} (h : in32 n = true) : -2147483648 ≤ n ∧ n ≤ 2147483647 := by unfold in32 at h; simpa using h
theorem inU16_iff {n : Int} (h : inU16 n = true) : 0 ≤ n ∧ n ≤ 65535 := by unfold inU16 at h; simpa using h

def fixed_Round.f (_ : Nat) (a b c : Int) : Option (Int × Int) := given (in64 a && in64 b && in64 c) (quot a b c true)
theorem fixed_Round.mono : ∀ a b c k, LeO (fixed_Round.f k a b c) (fixed_Round.f (k + 1) a b c) := fun _ _ _ _ => LeO.refl _
theorem fixed_Round.calls (k : Nat) (a b c : Int) (r1 r2 : Int) (w : World) (h : fixed_Round.f k a b c = some (r1, r2)) (_ : Wf w) :
    Calls Tryz.prog 4 #[.int .i64 a, .int .i64 b, .int .i64 c] w fun e w' => e = .returned (.tuple #[.int .i64 r1, .int .i64 r2]) ∧ Below w.heap.size w w' := by
  obtain ⟨hc, e⟩ := given_some h
  simp only [Bool.and_eq_true] at hc
  obtain ⟨⟨h1, h2⟩, h3⟩ := hc
  have := Round_tells a b c (in64_iff h1).1 (in64_iff h1).2 (in64_iff h2).1 (in64_iff h2).2 (in64_iff h3).1 (in64_iff h3).2 w
  rw [e] at this
  exact this
def fixed_MulDiv.f (_ : Nat) (a b c : Int) : Option (Int × Int) := given (in64 a && in64 b && in64 c) (quot a b c false)
theorem fixed_MulDiv.mono : ∀ a b c k, LeO (fixed_MulDiv.f k a b c) (fixed_MulDiv.f (k + 1) a b c) := fun _ _ _ _ => LeO.refl _
theorem fixed_MulDiv.calls (k : Nat) (a b c : Int) (r1 r2 : Int) (w : World) (h : fixed_MulDiv.f k a b c = some (r1, r2)) (_ : Wf w) :
    Calls Tryz.prog 5 #[.int .i64 a, .int .i64 b, .int .i64 c] w fun e w' => e = .returned (.tuple #[.int .i64 r1, .int .i64 r2]) ∧ Below w.heap.size w w' := by
  obtain ⟨hc, e⟩ := given_some h
  simp only [Bool.and_eq_true] at hc
  obtain ⟨⟨h1, h2⟩, h3⟩ := hc
  have := MulDiv_tells a b c (in64_iff h1).1 (in64_iff h1).2 (in64_iff h2).1 (in64_iff h2).2 (in64_iff h3).1 (in64_iff h3).2 w
  rw [e] at this
  exact this
def fixed_Print.f (_ : Nat) (a : Int) : Option ByteArray := given (in64 a) (tx (print a))
theorem fixed_Print.mono : ∀ a k, LeO (fixed_Print.f k a) (fixed_Print.f (k + 1) a) := fun _ _ => LeO.refl _
theorem fixed_Print.calls (k : Nat) (a : Int) (r : ByteArray) (w : World) (h : fixed_Print.f k a = some r) (hw : Wf w) :
    Calls Tryz.prog 6 #[.int .i64 a] w fun e w' => e = .returned (.string r) ∧ Below w.heap.size w w' := by
  obtain ⟨hc, rfl⟩ := given_some h
  exact Print_tells a (in64_iff hc).1 (in64_iff hc).2 w hw.tab
def calamuslaw01_FixedReads.g (_ : Nat) (_ : ByteArray) (x : Int) : Option Bool := given (decide (0 ≤ x)) true
theorem calamuslaw01_FixedReads.tells (k : Nat) (s : ByteArray) (x : Int) (r : Bool) (w : World) (h : calamuslaw01_FixedReads.g k s x = some r) (hw : Wf w) :
    Calls Tryz.prog 7 #[.string s, .int .u8 x] w fun e w' => e = .returned (.bool r) ∧ Below w.heap.size w w' := by
  obtain ⟨hc, rfl⟩ := given_some h
  exact FixedReads_true s x (by simpa using hc) w hw
def calamuslaw01_FixedQuotients.f (_ : Nat) (a b c : Int) : Option Bool := given (in64 a && in64 b && in64 c) true
theorem calamuslaw01_FixedQuotients.mono : ∀ a b c k, LeO (calamuslaw01_FixedQuotients.f k a b c) (calamuslaw01_FixedQuotients.f (k + 1) a b c) := fun _ _ _ _ => LeO.refl _
theorem calamuslaw01_FixedQuotients.calls (k : Nat) (a b c : Int) (r : Bool) (w : World) (h : calamuslaw01_FixedQuotients.f k a b c = some r) (hw : Wf w) :
    Calls Tryz.prog 9 #[.int .i64 a, .int .i64 b, .int .i64 c] w fun e w' => e = .returned (.bool r) ∧ Below w.heap.size w w' := by
  obtain ⟨hc, rfl⟩ := given_some h
  simp only [Bool.and_eq_true] at hc
  obtain ⟨⟨h1, h2⟩, h3⟩ := hc
  exact FixedQuotients_true a b c (in64_iff h1).1 (in64_iff h1).2 (in64_iff h2).1 (in64_iff h2).2 (in64_iff h3).1 (in64_iff h3).2 w hw
def calamuslaw01_FixedSums.f (_ : Nat) (a b : Int) : Option Bool := given (in64 a && in64 b) true
theorem calamuslaw01_FixedSums.mono : ∀ a b k, LeO (calamuslaw01_FixedSums.f k a b) (calamuslaw01_FixedSums.f (k + 1) a b) := fun _ _ _ => LeO.refl _
theorem calamuslaw01_FixedSums.calls (k : Nat) (a b : Int) (r : Bool) (w : World) (h : calamuslaw01_FixedSums.f k a b = some r) (hw : Wf w) :
    Calls Tryz.prog 10 #[.int .i64 a, .int .i64 b] w fun e w' => e = .returned (.bool r) ∧ Below w.heap.size w w' := by
  obtain ⟨hc, rfl⟩ := given_some h
  simp only [Bool.and_eq_true] at hc
  obtain ⟨h1, h2⟩ := hc
  exact FixedSums_true a b (in64_iff h1).1 (in64_iff h1).2 (in64_iff h2).1 (in64_iff h2).2 w hw
def calamuslaw01_FixedScales.f (_ : Nat) (a b c : Int) : Option Bool := given (in64 a && in64 b && inU16 c) true
theorem calamuslaw01_FixedScales.mono : ∀ a b c k, LeO (calamuslaw01_FixedScales.f k a b c) (calamuslaw01_FixedScales.f (k + 1) a b c) := fun _ _ _ _ => LeO.refl _
theorem calamuslaw01_FixedScales.calls (k : Nat) (a b c : Int) (r : Bool) (w : World) (h : calamuslaw01_FixedScales.f k a b c = some r) (hw : Wf w) :
    Calls Tryz.prog 11 #[.int .i64 a, .int .i64 b, .int .u16 c] w fun e w' => e = .returned (.bool r) ∧ Below w.heap.size w w' := by
  obtain ⟨hc, rfl⟩ := given_some h
  simp only [Bool.and_eq_true] at hc
  obtain ⟨⟨h1, h2⟩, h3⟩ := hc
  exact FixedScales_true a b c (in64_iff h1).1 (in64_iff h1).2 (in64_iff h2).1 (in64_iff h2).2 (inU16_iff h3).1 (by have := (inU16_iff h3).2; omega) w hw
def calamuslaw01_FixedPrints.f (_ : Nat) (a : Int) : Option Bool := given (in64 a) true
theorem calamuslaw01_FixedPrints.mono : ∀ a k, LeO (calamuslaw01_FixedPrints.f k a) (calamuslaw01_FixedPrints.f (k + 1) a) := fun _ _ => LeO.refl _
theorem calamuslaw01_FixedPrints.calls (k : Nat) (a : Int) (r : Bool) (w : World) (h : calamuslaw01_FixedPrints.f k a = some r) (hw : Wf w) :
    Calls Tryz.prog 12 #[.int .i64 a] w fun e w' => e = .returned (.bool r) ∧ Below w.heap.size w w' := by
  obtain ⟨hc, rfl⟩ := given_some h
  exact FixedPrints_true a (in64_iff hc).1 (in64_iff hc).2 w hw
def calamuslaw01_FixedNear.f (_ : Nat) (a b c : Int) : Option Bool := given (in32 a && in32 b && in64 c) true
theorem calamuslaw01_FixedNear.mono : ∀ a b c k, LeO (calamuslaw01_FixedNear.f k a b c) (calamuslaw01_FixedNear.f (k + 1) a b c) := fun _ _ _ _ => LeO.refl _
theorem calamuslaw01_FixedNear.calls (k : Nat) (a b c : Int) (r : Bool) (w : World) (h : calamuslaw01_FixedNear.f k a b c = some r) (hw : Wf w) :
    Calls Tryz.prog 13 #[.int .i32 a, .int .i32 b, .int .i64 c] w fun e w' => e = .returned (.bool r) ∧ Below w.heap.size w w' := by
  obtain ⟨hc, rfl⟩ := given_some h
  simp only [Bool.and_eq_true] at hc
  obtain ⟨⟨h1, h2⟩, h3⟩ := hc
  exact FixedNear_true a b c (in32_iff h1).1 (in32_iff h1).2 (in32_iff h2).1 (in32_iff h2).2 (in64_iff h3).1 (in64_iff h3).2 w hw
end Go.Proofs.YtfhadnhpognefaaGreatDoor.PRef
