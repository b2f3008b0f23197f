/- Noughts ahead of a number, and behind its point, change nothing. -/
import Derived.Test.YtfhadnhpognefaaGreatDoorFxRefRead
namespace Go.Proofs.YtfhadnhpognefaaGreatDoor.Fx
open Go Go.RowKit

def oh (n : Nat) : List UInt8 := List.replicate n 48
theorem oh_dig (n : Nat) : (oh n).all isDig = true := by
  unfold oh; rw [List.all_replicate]; cases n <;> simp [isDig]
theorem oh_len (n : Nat) : (oh n).length = n := by unfold oh; rw [List.length_replicate]
theorem val10_oh (n : Nat) : val10 (oh n) = 0 := by
  induction n with
  | zero => rfl
  | succ n ih =>
    have : oh (n + 1) = 48 :: oh n := rfl
    rw [this, val10_cons, ih]; simp
/-- A text with the same number, and noughts. -/
def tail' (p : List UInt8) : List UInt8 := if p = [] then [] else 46 :: p
def nought (s : List UInt8) (n : Nat) : List UInt8 :=
  (if negOf s = true then [45] else []) ++ ((oh n ++ wholeOf s) ++ tail' (partOf s ++ oh n))
theorem scale_div (A B c : Nat) (hc : 0 < c) : A * c * 65536 / (B * c) = A * 65536 / B := by
  rw [Nat.mul_right_comm]; exact Nat.mul_div_mul_right _ _ hc
theorem scale_mod (A B c : Nat) : A * c * 65536 % (B * c) = A * 65536 % B * c := by
  rw [Nat.mul_right_comm]; exact Nat.mul_mod_mul_right _ _ _
theorem magR_oh (w p : List UInt8) (n : Nat) : magR (oh n ++ w) (p ++ oh n) = magR w p := by
  unfold magR
  have e1 : val10 ((oh n ++ w) ++ (p ++ oh n)) = val10 (w ++ p) * 10 ^ n := by
    rw [show (oh n ++ w) ++ (p ++ oh n) = oh n ++ ((w ++ p) ++ oh n) by simp only [List.append_assoc], val10_append, val10_oh, Nat.zero_mul, Nat.zero_add, val10_append, val10_oh, oh_len, Nat.add_zero]
  have e2 : 10 ^ (p ++ oh n).length = 10 ^ p.length * 10 ^ n := by rw [List.length_append, oh_len, Nat.pow_add]
  have hc : 0 < 10 ^ n := Nat.pow_pos (by decide)
  rw [e1, e2, scale_div _ _ _ hc, scale_mod]
  generalize 10 ^ n = c at *
  generalize 10 ^ p.length = B
  generalize val10 (w ++ p) * 65536 % B = R
  congr 1
  have : (B * c ≤ 2 * (R * c)) ↔ B ≤ 2 * R := by
    rw [← Nat.mul_assoc]; exact Nat.mul_le_mul_right_iff hc
  by_cases h : B ≤ 2 * R
  · rw [if_pos h, if_pos (this.2 h)]
  · rw [if_neg h, if_neg (fun x => h (this.1 x))]
theorem good_parts {s : List UInt8} (h : goodText s = true) : (wholeOf s).all isDig = true ∧ wholeOf s ≠ [] ∧ (partOf s).all isDig = true ∧ (partOf s = [] ↔ pointOf s = false) := by
  unfold goodText allDig at h
  simp only [Bool.and_eq_true, Bool.or_eq_true, Bool.not_eq_true'] at h
  obtain ⟨⟨_, hw, hd⟩, hp⟩ := h
  refine ⟨hd, by simpa using hw, ?_, ?_⟩
  · rcases hp with hp | ⟨_, hp⟩
    · unfold pointOf at hp; unfold partOf
      rw [Option.isSome_eq_false_iff, Option.isNone_iff_eq_none] at hp
      rw [hp]; rfl
    · exact hp
  · rcases hp with hp | ⟨hp, _⟩
    · refine ⟨fun _ => hp, fun _ => ?_⟩
      unfold pointOf at hp; unfold partOf
      rw [Option.isSome_eq_false_iff, Option.isNone_iff_eq_none] at hp
      rw [hp]; rfl
    · refine ⟨fun h => by rw [h] at hp; simp at hp, fun h => ?_⟩
      unfold pointOf at h; unfold partOf
      rw [Option.isSome_eq_false_iff, Option.isNone_iff_eq_none] at h
      rw [h]; rfl
theorem read_of (neg : Bool) (w p : List UInt8) (hw : w.all isDig = true) (hn : w ≠ []) (hp : p.all isDig = true) (hl : ((if neg = true then [45] else []) ++ (w ++ tail' p)).length ≤ 40) :
    read ((if neg = true then [45] else []) ++ (w ++ tail' p)) = flow (withSign neg (magR w p)) := by
  generalize hs : (if neg = true then [45] else []) ++ (w ++ tail' p) = s at *
  have hhead : ∀ t : List UInt8, negOf (w ++ t) = false := fun t => by
    cases w with
    | nil => exact absurd rfl hn
    | cons x l =>
      rw [List.all_cons, Bool.and_eq_true] at hw
      unfold negOf
      rw [List.cons_append, List.head?_cons]
      have hx : x ≠ 45 := fun e => by rw [e] at hw; exact absurd hw.1 (by decide)
      simp [hx]
  have hneg : negOf s = neg := by
    rw [← hs]
    cases neg with
    | true => simp [negOf]
    | false => simpa using hhead _
  have hrest : restOf s = w ++ tail' p := by
    unfold restOf
    rw [hneg, ← hs]
    cases neg <;> simp
  have hv : wholeOf s = w ∧ partOf s = p ∧ pointOf s = !p.isEmpty := by
    unfold wholeOf partOf pointOf
    rw [hrest]
    unfold tail'
    by_cases h0 : p = []
    · rw [if_pos h0, List.append_nil, (cut_digits 46 (by decide) [] w hw).2, h0]
      exact ⟨rfl, rfl, rfl⟩
    · rw [if_neg h0, (cut_digits 46 (by decide) _ w hw).1]
      exact ⟨rfl, rfl, by simp [h0]⟩
  have hg : goodText s = true := by
    unfold goodText allDig
    rw [hv.1, hv.2.1, hv.2.2, hw, hp]
    cases he : p.isEmpty <;> simp [hl, hn]
  unfold read
  rw [if_pos hg, hv.1, hv.2.1, hneg]
theorem read_nought {s : List UInt8} (hg : goodText s = true) (n : Nat) (hl : (wholeOf s ++ partOf s).length + 2 * n ≤ 36) : read (nought s n) = read s := by
  obtain ⟨hw, hn, hp, _⟩ := good_parts hg
  have hlen : (nought s n).length ≤ 40 := by
    unfold nought tail'
    rw [List.length_append] at hl
    simp only [List.length_append, oh_len]
    split <;> split <;> simp [oh_len] <;> omega
  unfold nought at hlen ⊢
  rw [read_of (negOf s) (oh n ++ wholeOf s) (partOf s ++ oh n) (by rw [List.all_append, oh_dig, hw]; rfl) (by simp [hn]) (by rw [List.all_append, oh_dig, hp]; rfl) hlen, magR_oh]
  unfold read
  rw [if_pos hg]
end Go.Proofs.YtfhadnhpognefaaGreatDoor.Fx
