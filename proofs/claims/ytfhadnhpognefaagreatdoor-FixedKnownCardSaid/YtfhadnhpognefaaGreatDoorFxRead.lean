/- Reading decimals: the laws on lists of digits that the program's way of reading comes to. -/
import Derived.Test.YtfhadnhpognefaaGreatDoorFxMath
import Derived.Lib.SlTrimSet
import Derived.Lib.ParseIntB
import Derived.Lib.IndexMore
import Derived.Lib.IndexBytes
import Derived.Lib.Strings
namespace Go.Proofs.YtfhadnhpognefaaGreatDoor.Fx
open Go Go.RowKit

/-! ### The text's parts -/
theorem prefix_neg (s : List UInt8) : Lib.hasPrefix s [45] = negOf s := by
  unfold Lib.hasPrefix negOf
  cases s with
  | nil => rfl
  | cons x l =>
    simp only [List.isPrefixOf_cons_cons, List.isPrefixOf_nil_left, Bool.and_true, List.head?_cons]
    by_cases h : x = 45
    · subst h; rfl
    · rw [show ((45 : UInt8) == x) = false by simpa using fun e => h e.symm]
      simp [h]
theorem prefix_rest (s : List UInt8) : Lib.trimPrefix s [45] = restOf s := by
  unfold Lib.trimPrefix restOf
  rw [prefix_neg]
  by_cases h : negOf s = true
  · rw [if_pos h, if_pos h]; simp
  · rw [if_neg h, if_neg h]
theorem cut_at (s : List UInt8) (c : UInt8) : Lib.cut s [c] = ((cutAt c s).1, (cutAt c s).2.getD [], (cutAt c s).2.isSome) := by
  unfold Lib.cut
  rw [Lib.index_one]
  induction s with
  | nil => simp [Lib.indexByte, cutAt]
  | cons x l ih =>
    by_cases h : x = c
    · subst h; simp [Lib.indexByte, cutAt]
    · have hb : (x == c) = false := by simpa using h
      have hg : -1 ≤ Lib.indexByte l c := by rw [← Lib.index_one]; exact Lib.index_ge l [c]
      by_cases h2 : 0 ≤ Lib.indexByte l c
      · have hn : (Lib.indexByte l c == -1) = false := by simp; omega
        rw [if_pos h2] at ih
        have e : Lib.indexByte (x :: l) c = Lib.indexByte l c + 1 := by simp [Lib.indexByte, hb, hn]
        rw [e, if_pos (by omega), show (Lib.indexByte l c + 1).toNat = (Lib.indexByte l c).toNat + 1 by omega]
        simp only [cutAt, if_neg h]
        rw [Prod.mk.injEq, Prod.mk.injEq] at ih
        obtain ⟨a, b, d⟩ := ih
        simp only [List.length_singleton] at b ⊢
        rw [List.take_succ_cons, a, Nat.add_right_comm, List.drop_succ_cons, b, d]
      · have e1 : Lib.indexByte l c = -1 := by omega
        rw [if_neg h2] at ih
        have e : Lib.indexByte (x :: l) c = -1 := by simp [Lib.indexByte, hb, e1]
        rw [e, if_neg (by omega)]
        simp only [cutAt, if_neg h]
        rw [Prod.mk.injEq, Prod.mk.injEq] at ih
        obtain ⟨a, b, d⟩ := ih
        rw [← a, ← b, ← d]
def tens : List UInt8 := [48, 49, 50, 51, 52, 53, 54, 55, 56, 57]
theorem tens_dig (c : UInt8) : tens.contains c = isDig c := by
  have H : ∀ n : Fin 256, tens.contains (UInt8.ofNat n.1) = isDig (UInt8.ofNat n.1) := by decide +kernel
  have := H ⟨c.toNat, c.toNat_lt⟩
  simpa using this
theorem drop_nil {α : Type} (p : α → Bool) : ∀ l : List α, l.dropWhile p = [] ↔ l.all p = true
  | [] => by simp
  | x :: t => by
    rw [List.dropWhile_cons, List.all_cons]
    by_cases h : p x = true
    · rw [if_pos h, h, Bool.true_and]; exact drop_nil p t
    · rw [if_neg h]; simp [h]
theorem drop_head {α : Type} (p : α → Bool) : ∀ (l : List α) (y : α) (t : List α), l.dropWhile p = y :: t → p y = false
  | [], y, t, h => by simp at h
  | x :: l, y, t, h => by
    rw [List.dropWhile_cons] at h
    by_cases hx : p x = true
    · rw [if_pos hx] at h; exact drop_head p l y t h
    · rw [if_neg hx] at h
      injection h with h1 h2
      rw [← h1]; simpa using hx
theorem trim_none (l : List UInt8) : (Lib.trimS l tens = []) ↔ l.all isDig = true := by
  unfold Lib.trimS Lib.trimLeftS Lib.trimRightS
  have hf : (fun x => tens.contains x) = isDig := funext tens_dig
  rw [hf, drop_nil, List.all_reverse]
  constructor
  · intro h
    cases hc : l.reverse.dropWhile isDig with
    | nil => rw [drop_nil, List.all_reverse] at hc; exact hc
    | cons y t =>
      have h1 := drop_head isDig _ _ _ hc
      rw [hc, List.all_cons, h1] at h
      simp at h
  · intro h
    have : l.reverse.dropWhile isDig = [] := by rw [drop_nil, List.all_reverse]; exact h
    rw [this]; rfl

/-! ### Values -/
theorem val10_go (l : List UInt8) : ∀ a : Nat, l.foldl (fun n c => n * 10 + (c.toNat - 48)) a = a * 10 ^ l.length + val10 l := by
  induction l with
  | nil => intro a; simp [val10]
  | cons x t ih =>
    intro a
    unfold val10
    rw [List.foldl_cons, List.foldl_cons, ih, ih, List.length_cons, Nat.pow_succ, Nat.zero_mul, Nat.zero_add, Nat.add_mul, Nat.mul_assoc a 10, Nat.mul_comm 10]
    omega
theorem val10_append (a b : List UInt8) : val10 (a ++ b) = val10 a * 10 ^ b.length + val10 b := by
  unfold val10
  rw [List.foldl_append]
  exact val10_go b _
theorem val10_cons (x : UInt8) (t : List UInt8) : val10 (x :: t) = (x.toNat - 48) * 10 ^ t.length + val10 t := by
  have := val10_append [x] t
  simpa [val10] using this
theorem val10_lt : ∀ l : List UInt8, l.all isDig = true → val10 l < 10 ^ l.length
  | [], _ => by simp [val10]
  | x :: t, h => by
    rw [List.all_cons, Bool.and_eq_true] at h
    have h1 := val10_lt t h.2
    have h2 : x.toNat - 48 ≤ 9 := by have := h.1; unfold isDig at this; simp at this; omega
    rw [val10_cons, List.length_cons, Nat.pow_succ]
    have h3 : (x.toNat - 48) * 10 ^ t.length ≤ 9 * 10 ^ t.length := Nat.mul_le_mul_right _ h2
    omega
theorem parse_digits (l : List UInt8) (hd : l.all isDig = true) : ∀ acc, acc < 18446744073709551616 →
    Lib.parseUintM 18446744073709551615 acc l = if acc * 10 ^ l.length + val10 l < 18446744073709551616 then .ok (acc * 10 ^ l.length + val10 l) else .range := by
  induction l with
  | nil => intro acc h; simp [Lib.parseUintM, val10, h]
  | cons x t ih =>
    intro acc h
    rw [List.all_cons, Bool.and_eq_true] at hd
    have hx : 48 ≤ x.toNat ∧ x.toNat ≤ 57 := by have := hd.1; unfold isDig at this; simpa using this
    have hp : 1 ≤ 10 ^ t.length := Nat.one_le_pow _ _ (by decide)
    have e : acc * 10 ^ (x :: t).length + val10 (x :: t) = (acc * 10 + (x.toNat - 48)) * 10 ^ t.length + val10 t := by
      rw [val10_cons, List.length_cons, Nat.pow_succ, Nat.add_mul, Nat.mul_assoc acc 10, Nat.mul_comm 10]; omega
    rw [e]
    unfold Lib.parseUintM
    rw [if_pos hx]
    have hbig : ∀ m, 18446744073709551616 ≤ m → ¬ (m * 10 ^ t.length + val10 t < 18446744073709551616) := fun m hm => by
      have : m * 1 ≤ m * 10 ^ t.length := Nat.mul_le_mul_left _ hp
      omega
    by_cases c1 : 1844674407370955162 ≤ acc
    · rw [if_pos c1, if_neg (hbig _ (by omega))]
    · rw [if_neg c1]
      by_cases c2 : 18446744073709551615 < acc * 10 + (x.toNat - 48)
      · rw [if_pos c2, if_neg (hbig _ (by omega))]
      · rw [if_neg c2]; exact ih hd.2 _ (by omega)
theorem parse_whole {l : List UInt8} (hd : allDig l = true) :
    Lib.parseUintB 64 l = if val10 l < 18446744073709551616 then .ok (val10 l) else .range := by
  unfold allDig at hd
  rw [Bool.and_eq_true] at hd
  have hne : l ≠ [] := by intro e; rw [e] at hd; simp at hd
  unfold Lib.parseUintB
  rw [if_neg hne]
  have := parse_digits l hd.2 0 (by decide)
  rw [Nat.zero_mul, Nat.zero_add] at this
  exact this

/-! ### A row of digits, doubled from its low end -/
def sv (G : Nat → Nat) : Nat → Nat → Nat
  | 0, _ => 0
  | n + 1, i => G i * 10 ^ n + sv G n (i + 1)
theorem sv_congr {G H : Nat → Nat} : ∀ (n i : Nat), (∀ j, i ≤ j → j < i + n → G j = H j) → sv G n i = sv H n i
  | 0, _, _ => rfl
  | n + 1, i, h => by
    rw [sv, sv, h i (Nat.le_refl _) (by omega), sv_congr n (i + 1) (fun j h1 h2 => h j (by omega) (by omega))]
theorem sv_lt {G : Nat → Nat} : ∀ (n i : Nat), (∀ j, i ≤ j → j < i + n → G j ≤ 9) → sv G n i < 10 ^ n
  | 0, _, _ => by simp [sv]
  | n + 1, i, h => by
    have h1 := sv_lt n (i + 1) (fun j h1 h2 => h j (by omega) (by omega))
    have h2 : G i * 10 ^ n ≤ 9 * 10 ^ n := Nat.mul_le_mul_right _ (h i (Nat.le_refl _) (by omega))
    rw [sv, Nat.pow_succ]; omega
def Gl (l : List UInt8) (j : Nat) : Nat := (l.getD j 48).toNat - 48
theorem sv_shift (x : UInt8) (t : List UInt8) : ∀ n i, sv (Gl (x :: t)) n (i + 1) = sv (Gl t) n i
  | 0, _ => rfl
  | n + 1, i => by rw [sv, sv, sv_shift x t n (i + 1)]; rfl
theorem sv_val : ∀ l : List UInt8, sv (Gl l) l.length 0 = val10 l
  | [] => rfl
  | x :: t => by
    rw [List.length_cons, sv, sv_shift x t t.length 0, sv_val t, val10_cons]; rfl
theorem Gl_dig {l : List UInt8} (h : l.all isDig = true) (j : Nat) : Gl l j ≤ 9 := by
  unfold Gl
  by_cases hj : j < l.length
  · have := List.all_eq_true.1 h (l.getD j 48) (by rw [List.getD_eq_getElem?_getD, List.getElem?_eq_getElem hj]; exact List.getElem_mem hj)
    unfold isDig at this
    simp at this ⊢
    omega
  · rw [List.getD_eq_getElem?_getD, List.getElem?_eq_none (by omega)]; decide
/-- One digit doubled, with what runs over from below. -/
theorem double_digit {G H K : Nat → Nat} {n i c : Nat} (hK : K i = (2 * G i + c) % 10) (hHK : ∀ j, i + 1 ≤ j → K j = H j) (h : sv H n (i + 1) + c * 10 ^ n = 2 * sv G n (i + 1)) :
    sv K (n + 1) i + (2 * G i + c) / 10 * 10 ^ (n + 1) = 2 * sv G (n + 1) i := by
  rw [sv, sv, sv_congr (H := H) n (i + 1) (fun j h1 _ => hHK j h1), hK, Nat.pow_succ]
  have e : (2 * G i + c) % 10 * 10 ^ n + (2 * G i + c) / 10 * (10 ^ n * 10) = (2 * G i + c) * 10 ^ n := by
    have := Nat.mod_add_div (2 * G i + c) 10
    rw [Nat.mul_comm (10 ^ n) 10, ← Nat.mul_assoc, ← Nat.add_mul]
    congr 1; omega
  rw [Nat.add_mul] at e
  have e2 : 2 * (G i * 10 ^ n + sv G n (i + 1)) = 2 * G i * 10 ^ n + 2 * sv G n (i + 1) := by rw [Nat.mul_add, Nat.mul_assoc]
  rw [e2]
  omega
/-- What one bit is. -/
theorem carry_bit {v v' c p : Nat} (h : v' + c * p = 2 * v) (hv : v < p) (hv' : v' < p) : c ≤ 1 ∧ (c = 1 ↔ p ≤ 2 * v) := by
  have h1 : c ≤ 1 := by
    rcases Nat.lt_or_ge c 2 with h2 | h2
    · omega
    · have : 2 * p ≤ c * p := Nat.mul_le_mul_right _ h2
      omega
  refine ⟨h1, ?_⟩
  rcases Nat.lt_or_ge c 1 with h2 | h2
  · obtain rfl : c = 0 := by omega
    omega
  · obtain rfl : c = 1 := by omega
    omega
/-- What the bits come to. -/
theorem bits_done {w p wv V q : Nat} (h : wv * 10 ^ q + V = (w * 10 ^ q + p) * 65536) (hV : V < 10 ^ q) :
    (w * 10 ^ q + p) * 65536 / 10 ^ q = wv ∧ (w * 10 ^ q + p) * 65536 % 10 ^ q = V := by
  have hp : 0 < 10 ^ q := Nat.pow_pos (by decide)
  rw [← h, Nat.mul_comm, Nat.mul_add_div hp, Nat.mul_add_mod, Nat.div_eq_of_lt hV, Nat.mod_eq_of_lt hV]
  omega
end Go.Proofs.YtfhadnhpognefaaGreatDoor.Fx
