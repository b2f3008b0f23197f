/- The quotient of two words by one, as math/bits tells it: what its printed functions come to. -/
import Derived.Test.YtfhadnhpognefaaGreatDoorPRefx
import Derived.Test.YtfhadnhpognefaaGreatDoorFxLong
import Derived.Laws.BitsAllLaws
namespace Go.Proofs.YtfhadnhpognefaaGreatDoor.Fx
open Go Go.RowKit Go.Proofs.YtfhadnhpognefaaGreatDoorW.PrintWords Go.Proofs.YtfhadnhpognefaaGreatDoorW.PrintLast Go.Proofs.YtfhadnhpognefaaGreatDoorW.PrintMore Go.Proofs.YtfhadnhpognefaaGreatDoor.PRef

/-! ### How many bits a number has -/
def lenTab (i : Int) : Int := bt (⟨#[0, 1, 2, 2, 3, 3, 3, 3, 4, 4, 4, 4, 4, 4, 4, 4, 5, 5, 5, 5, 5, 5, 5, 5, 5, 5, 5, 5, 5, 5, 5, 5, 6, 6, 6, 6, 6, 6, 6, 6, 6, 6, 6, 6, 6, 6, 6, 6, 6, 6, 6, 6, 6, 6, 6, 6, 6, 6, 6, 6, 6, 6, 6, 6, 7, 7, 7, 7, 7, 7, 7, 7, 7, 7, 7, 7, 7, 7, 7, 7, 7, 7, 7, 7, 7, 7, 7, 7, 7, 7, 7, 7, 7, 7, 7, 7, 7, 7, 7, 7, 7, 7, 7, 7, 7, 7, 7, 7, 7, 7, 7, 7, 7, 7, 7, 7, 7, 7, 7, 7, 7, 7, 7, 7, 7, 7, 7, 7, 8, 8, 8, 8, 8, 8, 8, 8, 8, 8, 8, 8, 8, 8, 8, 8, 8, 8, 8, 8, 8, 8, 8, 8, 8, 8, 8, 8, 8, 8, 8, 8, 8, 8, 8, 8, 8, 8, 8, 8, 8, 8, 8, 8, 8, 8, 8, 8, 8, 8, 8, 8, 8, 8, 8, 8, 8, 8, 8, 8, 8, 8, 8, 8, 8, 8, 8, 8, 8, 8, 8, 8, 8, 8, 8, 8, 8, 8, 8, 8, 8, 8, 8, 8, 8, 8, 8, 8, 8, 8, 8, 8, 8, 8, 8, 8, 8, 8, 8, 8, 8, 8, 8, 8, 8, 8, 8, 8, 8, 8, 8, 8, 8, 8, 8, 8, 8, 8, 8, 8, 8, 8, 8, 8, 8, 8, 8, 8]⟩ : ByteArray) i
set_option maxRecDepth 100000 in
theorem tab_all : ∀ n : Fin 256, (lenTab (n.1 : Int)).toNat ≤ 8 ∧ 0 ≤ lenTab (n.1 : Int) ∧ n.1 < 2 ^ (lenTab (n.1 : Int)).toNat ∧ (0 < n.1 → 2 ^ (lenTab (n.1 : Int)).toNat ≤ 2 * n.1) := by decide +kernel
theorem tab_len (i : Int) (h0 : 0 ≤ i) (h1 : i < 256) : ∃ L : Nat, L ≤ 8 ∧ lenTab i = (L : Int) ∧ i < 2 ^ L ∧ (0 < i → (2 : Int) ^ L ≤ 2 * i) := by
  obtain ⟨n, rfl⟩ := Int.eq_ofNat_of_zero_le h0
  obtain ⟨a, b, c, d⟩ := tab_all ⟨n, by omega⟩
  simp only at a b c d
  generalize lenTab (n : Int) = v at *
  refine ⟨v.toNat, a, by omega, by exact_mod_cast c, fun h => ?_⟩
  have := d (by omega)
  exact_mod_cast this
theorem len_eq (k : Nat) (x x2 : Int) : bits_Len64.j0 (k + 1) x x2 = if x ≥ 65536 then (if (x / 65536) ≥ 256 then (if 0 ≤ (((x / 65536) / 256) % 256) then (if (((x / 65536) / 256) % 256) < 256 then (some (wrap64 ((wrap64 ((wrap64 (x2 + 16)) + 8)) + (wrap64 (lenTab (((x / 65536) / 256) % 256)))))) else none) else none) else (if 0 ≤ ((x / 65536) % 256) then (if ((x / 65536) % 256) < 256 then (some (wrap64 ((wrap64 (x2 + 16)) + (wrap64 (lenTab ((x / 65536) % 256)))))) else none) else none)) else (if x ≥ 256 then (if 0 ≤ ((x / 256) % 256) then (if ((x / 256) % 256) < 256 then (some (wrap64 ((wrap64 (x2 + 8)) + (wrap64 (lenTab ((x / 256) % 256)))))) else none) else none) else (if 0 ≤ (x % 256) then (if (x % 256) < 256 then (some (wrap64 (x2 + (wrap64 (lenTab (x % 256)))))) else none) else none)) := rfl
theorem len_join {n m : Nat} {x i : Int} {c : Int} (hc : c = 2 ^ m) (h : i = x / c) (h1 : i < 2 ^ n) (h2 : (2 : Int) ^ n ≤ 2 * i) : x < 2 ^ (n + m) ∧ (2 : Int) ^ (n + m) ≤ 2 * x := by
  rw [Int.pow_add, ← hc]
  have hcp : 0 < c := by rw [hc]; exact Int.pow_pos (by decide)
  generalize (2 : Int) ^ n = P at *
  have e := Int.mul_ediv_add_emod x c
  have m0 := Int.emod_nonneg x (show c ≠ 0 by omega)
  have m1 := Int.emod_lt_of_pos x hcp
  rw [← h] at e
  have a1 : (i + 1) * c ≤ P * c := Int.mul_le_mul_of_nonneg_right (by omega) (by omega)
  have a2 : P * c ≤ (2 * i) * c := Int.mul_le_mul_of_nonneg_right (by omega) (by omega)
  rw [Int.add_mul] at a1
  rw [Int.mul_assoc] at a2
  rw [Int.mul_comm c i] at e
  omega
theorem len32 (x x2 : Int) (h0 : 0 ≤ x) (h1 : x < 4294967296) (k0 : 0 ≤ x2) (k1 : x2 ≤ 32) :
    ∃ n : Nat, n ≤ 32 ∧ (∀ k, bits_Len64.j0 (k + 1) x x2 = some (x2 + n)) ∧ x < 2 ^ n ∧ (0 < x → (2 : Int) ^ n ≤ 2 * x) := by
  simp only [len_eq]
  by_cases a : x ≥ 65536
  · simp only [if_pos a]
    by_cases b : x / 65536 ≥ 256
    · simp only [if_pos b]
      have e : x / 65536 / 256 % 256 = x / 16777216 := by omega
      rw [e]
      obtain ⟨L, hL, ht, u, v⟩ := tab_len (x / 16777216) (by omega) (by omega)
      obtain ⟨p, q⟩ := len_join (m := 24) (by decide) rfl u (v (by omega))
      refine ⟨L + 24, by omega, fun k => ?_, p, fun _ => q⟩
      rw [if_pos (by omega), if_pos (by omega), ht, w64 (n := (L : Int)) (by omega) (by omega), w64 (n := x2 + 16) (by omega) (by omega), w64 (n := x2 + 16 + 8) (by omega) (by omega), w64 (by omega) (by omega)]
      exact congrArg some (by omega)
    · simp only [if_neg b]
      have e : x / 65536 % 256 = x / 65536 := by omega
      rw [e]
      obtain ⟨L, hL, ht, u, v⟩ := tab_len (x / 65536) (by omega) (by omega)
      obtain ⟨p, q⟩ := len_join (m := 16) (by decide) rfl u (v (by omega))
      refine ⟨L + 16, by omega, fun k => ?_, p, fun _ => q⟩
      rw [if_pos (by omega), if_pos (by omega), ht, w64 (n := (L : Int)) (by omega) (by omega), w64 (n := x2 + 16) (by omega) (by omega), w64 (by omega) (by omega)]
      exact congrArg some (by omega)
  · simp only [if_neg a]
    by_cases b : x ≥ 256
    · simp only [if_pos b]
      have e : x / 256 % 256 = x / 256 := by omega
      rw [e]
      obtain ⟨L, hL, ht, u, v⟩ := tab_len (x / 256) (by omega) (by omega)
      obtain ⟨p, q⟩ := len_join (m := 8) (by decide) rfl u (v (by omega))
      refine ⟨L + 8, by omega, fun k => ?_, p, fun _ => q⟩
      rw [if_pos (by omega), if_pos (by omega), ht, w64 (n := (L : Int)) (by omega) (by omega), w64 (n := x2 + 8) (by omega) (by omega), w64 (by omega) (by omega)]
      exact congrArg some (by omega)
    · simp only [if_neg b]
      have e : x % 256 = x := by omega
      rw [e]
      obtain ⟨L, hL, ht, u, v⟩ := tab_len x (by omega) (by omega)
      refine ⟨L, by omega, fun k => ?_, u, v⟩
      rw [if_pos (by omega), if_pos (by omega), ht, w64 (n := (L : Int)) (by omega) (by omega), w64 (by omega) (by omega)]
/-- By how many bits a number is to be shifted until its highest one is at the top. -/
theorem leading (x : Int) (h0 : 0 < x) (h1 : x < 18446744073709551616) :
    ∃ s : Nat, s ≤ 63 ∧ (∀ k, bits_LeadingZeros64.f (k + 1) x = some (s : Int)) ∧ 9223372036854775808 ≤ x * 2 ^ s ∧ x * 2 ^ s < 18446744073709551616 := by
  obtain ⟨n, hn, hf, u, v⟩ : ∃ n : Nat, n ≤ 64 ∧ (∀ k, bits_Len64.f (k + 1) x = some (n : Int)) ∧ x < 2 ^ n ∧ (2 : Int) ^ n ≤ 2 * x := by
    by_cases h : x ≥ 4294967296
    · obtain ⟨n, hn, hf, u, v⟩ := len32 (x / 4294967296) 32 (by omega) (by omega) (by omega) (by omega)
      obtain ⟨p, q⟩ := len_join (m := 32) (by decide) rfl u (v (by omega))
      refine ⟨n + 32, by omega, fun k => ?_, p, q⟩
      unfold bits_Len64.f
      rw [if_pos h, hf]
      exact congrArg some (by omega)
    · obtain ⟨n, hn, hf, u, v⟩ := len32 x 0 (by omega) (by omega) (by omega) (by omega)
      refine ⟨n, by omega, fun k => ?_, u, v h0⟩
      unfold bits_Len64.f
      rw [if_neg h, hf]
      exact congrArg some (by omega)
  have hn1 : 1 ≤ n := by
    rcases Nat.eq_zero_or_pos n with e | e
    · subst e; simp at u; omega
    · exact e
  refine ⟨64 - n, by omega, fun k => ?_, ?_, ?_⟩
  · unfold bits_LeadingZeros64.f
    rw [hf, Option.bind_some, w64 (by omega) (by omega)]
    exact congrArg some (by omega)
  all_goals
    have e : (2 : Int) ^ n * 2 ^ (64 - n) = 18446744073709551616 := by rw [← Int.pow_add, show n + (64 - n) = 64 by omega]; rfl
    have hp : (0 : Int) < 2 ^ (64 - n) := Int.pow_pos (by decide)
  · have := Int.mul_le_mul_of_nonneg_right v (Int.le_of_lt hp)
    rw [Int.mul_assoc] at this
    omega
  · have := Int.mul_lt_mul_of_pos_right u hp
    omega

/-! ### One digit of the quotient (Knuth's D) -/
/-- What a step of the estimate keeps, and what its end is: y is a1, a0 to the base 2^32. -/
structure Est (y a1 a0 U n q r : Int) : Prop where
  y0 : y = a1 * 4294967296 + a0
  h1 : 2147483648 ≤ a1
  h2 : a1 < 4294967296
  h3 : 0 ≤ a0
  h4 : a0 < 4294967296
  h5 : 0 ≤ U
  h6 : U < y
  h7 : 0 ≤ n
  h8 : n < 4294967296
  hq : q * a1 + r = U
  r0 : 0 ≤ r
  q0 : (U * 4294967296 + n) / y ≤ q
  q1 : q ≤ 4294967297
theorem Est.first {y a1 a0 U n : Int} (y0 : y = a1 * 4294967296 + a0) (h1 : 2147483648 ≤ a1) (h2 : a1 < 4294967296) (h3 : 0 ≤ a0) (h4 : a0 < 4294967296) (h5 : 0 ≤ U) (h6 : U < y) (h7 : 0 ≤ n) (h8 : n < 4294967296) :
    Est y a1 a0 U n (U / a1) (U - U / a1 * a1) := by
  have e := Int.mul_ediv_add_emod U a1
  have m0 := Int.emod_nonneg U (show a1 ≠ 0 by omega)
  have m1 := Int.emod_lt_of_pos U (show 0 < a1 by omega)
  rw [Int.mul_comm] at e
  refine ⟨y0, h1, h2, h3, h4, h5, h6, h7, h8, by omega, by omega, ?_, ?_⟩
  · have hyp : 0 < y := by omega
    have a := Int.mul_ediv_add_emod (U * 4294967296 + n) y
    have b := Int.emod_nonneg (U * 4294967296 + n) (show y ≠ 0 by omega)
    have q00 : 0 ≤ (U * 4294967296 + n) / y := Int.ediv_nonneg (by omega) (by omega)
    generalize (U * 4294967296 + n) / y = Q at *
    have c : y * Q = Q * a1 * 4294967296 + Q * a0 := by rw [y0, Int.add_mul, Int.mul_right_comm, Int.mul_comm a1 Q, Int.mul_comm a0 Q]
    have d : 0 ≤ Q * a0 := Int.mul_nonneg q00 h3
    have f : Q * a1 ≤ U := by omega
    exact (Int.le_ediv_iff_mul_le (by omega)).2 f
  · generalize U / a1 = Q at *
    by_cases c : Q ≤ 4294967297
    · exact c
    · exfalso
      have d : 4294967298 * a1 ≤ Q * a1 := Int.mul_le_mul_of_nonneg_right (by omega) (by omega)
      omega
theorem Est.top {y a1 a0 U n q r : Int} (h : Est y a1 a0 U n q r) : (U * 4294967296 + n) / y < 4294967296 := by
  obtain ⟨y0, h1, h2, h3, h4, h5, h6, h7, h8, hq, r0, q0, q1⟩ := h
  rw [Int.ediv_lt_iff_lt_mul (by omega)]
  have : U * 4294967296 ≤ (y - 1) * 4294967296 := Int.mul_le_mul_of_nonneg_right (by omega) (by omega)
  omega
theorem Est.pos {y a1 a0 U n q r : Int} (h : Est y a1 a0 U n q r) : 0 ≤ (U * 4294967296 + n) / y := by
  obtain ⟨y0, h1, h2, h3, h4, h5, h6, h7, h8, hq, r0, q0, q1⟩ := h
  exact Int.ediv_nonneg (by omega) (by omega)
theorem Est.over {y a1 a0 U n q r : Int} (h : Est y a1 a0 U n q r) : ((U * 4294967296 + n) / y < q ↔ r * 4294967296 + n < q * a0) := by
  have hy : 0 < y := by obtain ⟨y0, h1, h2, h3, h4, h5, h6, h7, h8, hq, r0, q0, q1⟩ := h; omega
  rw [Int.ediv_lt_iff_lt_mul hy]
  obtain ⟨y0, h1, h2, h3, h4, h5, h6, h7, h8, hq, r0, q0, q1⟩ := h
  have e : q * y = q * a1 * 4294967296 + q * a0 := by rw [y0, Int.mul_add, Int.mul_assoc]
  omega
/-- The estimate was too great. -/
theorem Est.next {y a1 a0 U n q r : Int} (h : Est y a1 a0 U n q r) (hc : 4294967296 ≤ q ∨ r * 4294967296 + n < q * a0) : Est y a1 a0 U n (q - 1) (r + a1) := by
  have t := h.top
  have o := h.over
  obtain ⟨y0, h1, h2, h3, h4, h5, h6, h7, h8, hq, r0, q0, q1⟩ := h
  refine ⟨y0, h1, h2, h3, h4, h5, h6, h7, h8, by rw [Int.sub_mul]; omega, by omega, ?_, by omega⟩
  rcases hc with c | c
  · omega
  · have := o.2 c; omega
theorem Est.done {y a1 a0 U n q r : Int} (h : Est y a1 a0 U n q r) (hc : ¬ (4294967296 ≤ q ∨ r * 4294967296 + n < q * a0)) : q = (U * 4294967296 + n) / y := by
  have o := h.over
  have := h.q0
  have : ¬ (U * 4294967296 + n) / y < q := fun c => hc (Or.inr (o.1 c))
  omega
theorem Est.full {y a1 a0 U n q r : Int} (h : Est y a1 a0 U n q r) (hq : q ≤ 4294967296) (hr : 4294967296 ≤ r) : q = (U * 4294967296 + n) / y := by
  have o := h.over
  have p := h.pos
  obtain ⟨y0, h1, h2, h3, h4, h5, h6, h7, h8, hq', r0, q0, q1⟩ := h
  have a : q * a0 ≤ 4294967296 * a0 := Int.mul_le_mul_of_nonneg_right (by omega) (by omega)
  have b : 4294967296 * 4294967296 ≤ r * 4294967296 := Int.mul_le_mul_of_nonneg_right (by omega) (by omega)
  have : ¬ (U * 4294967296 + n) / y < q := fun c => by have := o.1 c; omega
  omega
/-- What is compared does not run over. -/
theorem Est.small {y a1 a0 U n q r : Int} (h : Est y a1 a0 U n q r) (hr : r < 4294967296) :
    (q ≥ 4294967296 ∨ decide ((IntKind.u64.wrap (q * a0)) > (IntKind.u64.wrap ((IntKind.u64.wrap (4294967296 * r)) + n))) = true) ↔ (4294967296 ≤ q ∨ r * 4294967296 + n < q * a0) := by
  have p := h.pos
  obtain ⟨y0, h1, h2, h3, h4, h5, h6, h7, h8, hq', r0, q0, q1⟩ := h
  have a : q * a0 ≤ 4294967297 * a0 := Int.mul_le_mul_of_nonneg_right (by omega) (by omega)
  have b : 0 ≤ q * a0 := Int.mul_nonneg (by omega) (by omega)
  rw [u64in (n := q * a0) (by omega) (by omega), u64in (n := 4294967296 * r) (by omega) (by omega), u64in (by omega) (by omega), decide_eq_true_eq]
  have : 4294967296 * r = r * 4294967296 := Int.mul_comm _ _
  omega

theorem low_step (y s a1 a0 n g : Int) (U : Int) (hs : 0 ≤ s) (hy : y < 18446744073709551616) (h1 : 0 ≤ g) (h2 : g < 4294967296) :
    ∀ (m : Nat) (q r : Int), q ≤ (U * 4294967296 + n) / y + m → r < 4294967296 → Est y a1 a0 U n q r →
      ∃ k, bits_Div64.l1 k y s a1 a0 n g r U q = some (g * 4294967296 + (U * 4294967296 + n) / y, shr .u64 ((U * 4294967296 + n) % y) s) := by
  have last : ∀ (q r : Int), Est y a1 a0 U n q r → q = (U * 4294967296 + n) / y → (IntKind.u64.wrap ((IntKind.u64.wrap (g * 4294967296)) + q) = g * 4294967296 + (U * 4294967296 + n) / y) ∧ IntKind.u64.wrap ((IntKind.u64.wrap ((IntKind.u64.wrap (U * 4294967296)) + n)) - (IntKind.u64.wrap (q * y))) = (U * 4294967296 + n) % y := by
    intro q r h e
    have t := h.top
    have p := h.pos
    obtain ⟨y0, h1', h2', h3, h4, h5, h6, h7, h8, hq', r0, q0, q1⟩ := h
    rw [← e] at t p ⊢
    have e2 := Int.mul_ediv_add_emod (U * 4294967296 + n) y
    have m0 := Int.emod_nonneg (U * 4294967296 + n) (show y ≠ 0 by omega)
    have m1 := Int.emod_lt_of_pos (U * 4294967296 + n) (show 0 < y by omega)
    rw [← e, Int.mul_comm] at e2
    refine ⟨by rw [u64in (n := g * 4294967296) (by omega) (by omega), u64in (by omega) (by omega)], ?_⟩
    simp only [IntKind.wrap_u64]
    omega
  intro m
  induction m with
  | zero =>
    intro q r hm hr h
    have e : q = (U * 4294967296 + n) / y := by have := h.q0; omega
    have t := h.top
    obtain ⟨l1, l2⟩ := last q r h e
    have hc : ¬ (4294967296 ≤ q ∨ r * 4294967296 + n < q * a0) := by rw [← h.over]; omega
    have hcc := (not_congr (h.small hr)).2 hc
    rw [not_or] at hcc
    refine ⟨2, ?_⟩
    simp only [bits_Div64.l1, bits_Div64.j4]
    rw [if_neg (by omega), if_neg hcc.2, if_pos hs, l1, l2]
  | succ m ih =>
    intro q r hm hr h
    by_cases hc : 4294967296 ≤ q ∨ r * 4294967296 + n < q * a0
    · have h' := h.next hc
      have hcc := (h.small hr).2 hc
      have q2 : 0 ≤ q - 1 := by have := h'.q0; have := h'.pos; omega
      have r2 : IntKind.u64.wrap (r + a1) = r + a1 := u64in (by have := h'.r0; omega) (by have := h.h2; omega)
      have w2 : IntKind.u64.wrap (q - 1) = q - 1 := u64in q2 (by have := h.q1; omega)
      by_cases hf : 4294967296 ≤ r + a1
      · have e := h'.full (by have := h.q1; omega) hf
        obtain ⟨l1, l2⟩ := last (q - 1) (r + a1) h' e
        have J : bits_Div64.j4 1 y s a1 a0 n g r U q true = some (g * 4294967296 + (U * 4294967296 + n) / y, shr .u64 ((U * 4294967296 + n) % y) s) := by
          simp only [bits_Div64.j4, if_true, r2, w2]
          rw [if_pos hf, if_pos hs, l1, l2]
        refine ⟨2, ?_⟩
        simp only [bits_Div64.l1]
        by_cases c : q ≥ 4294967296
        · rw [if_pos c]; exact J
        · rw [if_neg c, hcc.resolve_left c]; exact J
      · obtain ⟨k, hk⟩ := ih (q - 1) (r + a1) (by omega) (by omega) h'
        have J : bits_Div64.j4 (k + 1) y s a1 a0 n g r U q true = some (g * 4294967296 + (U * 4294967296 + n) / y, shr .u64 ((U * 4294967296 + n) % y) s) := by
          simp only [bits_Div64.j4, if_true, r2, w2]
          rw [if_neg hf]; exact hk
        refine ⟨k + 2, ?_⟩
        simp only [bits_Div64.l1]
        by_cases c : q ≥ 4294967296
        · rw [if_pos c]; exact J
        · rw [if_neg c, hcc.resolve_left c]; exact J
    · have e := h.done hc
      obtain ⟨l1, l2⟩ := last q r h e
      have hcc := (not_congr (h.small hr)).2 hc
      rw [not_or] at hcc
      refine ⟨2, ?_⟩
      simp only [bits_Div64.l1, bits_Div64.j4]
      rw [if_neg (by omega), if_neg hcc.2, if_pos hs, l1, l2]
theorem high_step (y s a1 a0 u1 n : Int) (U : Int) (hs : 0 ≤ s) (hy : y < 18446744073709551616) (n0 : 0 ≤ n) (n1 : n < 4294967296) :
    ∀ (m : Nat) (q r : Int), q ≤ (U * 4294967296 + u1) / y + m → r < 4294967296 → Est y a1 a0 U u1 q r →
      ∃ k, bits_Div64.l0 k y s a1 a0 U u1 n q r = some ((U * 4294967296 + u1) / y * 4294967296 + ((U * 4294967296 + u1) % y * 4294967296 + n) / y, shr .u64 (((U * 4294967296 + u1) % y * 4294967296 + n) % y) s) := by
  have last : ∀ (q r : Int), Est y a1 a0 U u1 q r → q = (U * 4294967296 + u1) / y →
      ∃ k, bits_Div64.j2 k y s a1 a0 U u1 n q = some ((U * 4294967296 + u1) / y * 4294967296 + ((U * 4294967296 + u1) % y * 4294967296 + n) / y, shr .u64 (((U * 4294967296 + u1) % y * 4294967296 + n) % y) s) := by
    intro q r h e
    have t := h.top
    have p := h.pos
    obtain ⟨y0, h1', h2', h3, h4, h5, h6, h7, h8, hq', r0, q0, q1⟩ := h
    have e2 := Int.mul_ediv_add_emod (U * 4294967296 + u1) y
    have m0 := Int.emod_nonneg (U * 4294967296 + u1) (show y ≠ 0 by omega)
    have m1 := Int.emod_lt_of_pos (U * 4294967296 + u1) (show 0 < y by omega)
    have w : IntKind.u64.wrap ((IntKind.u64.wrap ((IntKind.u64.wrap (U * 4294967296)) + u1)) - (IntKind.u64.wrap (q * y))) = (U * 4294967296 + u1) % y := by
      rw [← e, Int.mul_comm] at e2
      simp only [IntKind.wrap_u64]
      omega
    rw [e] at w ⊢
    generalize (U * 4294967296 + u1) / y = g at *
    generalize (U * 4294967296 + u1) % y = V at *
    have E := Est.first (n := n) y0 h1' h2' h3 h4 m0 m1 n0 n1
    have v0 : 0 ≤ V / a1 := Int.ediv_nonneg m0 (by omega)
    have m2 := Int.mul_ediv_add_emod V a1
    have m3 := Int.emod_nonneg V (show a1 ≠ 0 by omega)
    have m4 := Int.emod_lt_of_pos V (show 0 < a1 by omega)
    have m5 := E.q1
    have m6 := E.q0
    have m7 := E.pos
    rw [Int.mul_comm] at m2
    have m8 : 0 ≤ V / a1 * a1 := Int.mul_nonneg v0 (by omega)
    obtain ⟨k, hk⟩ := low_step y s a1 a0 n g V hs hy p t (V / a1 - (V * 4294967296 + n) / y).toNat _ _ (by omega) (by omega) E
    refine ⟨k + 1, ?_⟩
    simp only [bits_Div64.j2, w]
    rw [if_neg (by omega), Int.tdiv_eq_ediv_of_nonneg m0, u64in (n := V / a1) (by omega) (by omega), u64in (n := V / a1 * a1) (by omega) (by omega), u64in (n := V - V / a1 * a1) (by omega) (by omega)]
    exact hk
  intro m
  induction m with
  | zero =>
    intro q r hm hr h
    have e : q = (U * 4294967296 + u1) / y := by have := h.q0; omega
    have t := h.top
    obtain ⟨k, hk⟩ := last q r h e
    have hc : ¬ (4294967296 ≤ q ∨ r * 4294967296 + u1 < q * a0) := by rw [← h.over]; omega
    have hcc := (not_congr (h.small hr)).2 hc
    rw [not_or] at hcc
    refine ⟨k + 2, ?_⟩
    simp only [bits_Div64.l0, bits_Div64.j1]
    rw [if_neg (by omega), if_neg hcc.2]; exact hk
  | succ m ih =>
    intro q r hm hr h
    by_cases hc : 4294967296 ≤ q ∨ r * 4294967296 + u1 < q * a0
    · have h' := h.next hc
      have hcc := (h.small hr).2 hc
      have q2 : 0 ≤ q - 1 := by have := h'.q0; have := h'.pos; omega
      have r2 : IntKind.u64.wrap (r + a1) = r + a1 := u64in (by have := h'.r0; omega) (by have := h.h2; omega)
      have w2 : IntKind.u64.wrap (q - 1) = q - 1 := u64in q2 (by have := h.q1; omega)
      obtain ⟨k, J⟩ : ∃ k, bits_Div64.j1 k y s a1 a0 U u1 n q r true = some ((U * 4294967296 + u1) / y * 4294967296 + ((U * 4294967296 + u1) % y * 4294967296 + n) / y, shr .u64 (((U * 4294967296 + u1) % y * 4294967296 + n) % y) s) := by
        by_cases hf : 4294967296 ≤ r + a1
        · have e := h'.full (by have := h.q1; omega) hf
          obtain ⟨k, hk⟩ := last (q - 1) (r + a1) h' e
          refine ⟨k + 1, ?_⟩
          simp only [bits_Div64.j1, if_true, r2, w2]
          rw [if_pos hf]; exact hk
        · obtain ⟨k, hk⟩ := ih (q - 1) (r + a1) (by omega) (by omega) h'
          refine ⟨k + 1, ?_⟩
          simp only [bits_Div64.j1, if_true, r2, w2]
          rw [if_neg hf]; exact hk
      refine ⟨k + 1, ?_⟩
      simp only [bits_Div64.l0]
      by_cases c : q ≥ 4294967296
      · rw [if_pos c]; exact J
      · rw [if_neg c, hcc.resolve_left c]; exact J
    · have e := h.done hc
      obtain ⟨k, hk⟩ := last q r h e
      have hcc := (not_congr (h.small hr)).2 hc
      rw [not_or] at hcc
      refine ⟨k + 2, ?_⟩
      simp only [bits_Div64.l0, bits_Div64.j1]
      rw [if_neg (by omega), if_neg hcc.2]; exact hk

/-! ### The whole of it -/
theorem and_mask_B {x : Int} (h0 : 0 ≤ x) (h1 : x < 18446744073709551616) : Go.bits .and .u64 x 4294967295 = x % 4294967296 := by
  obtain ⟨n, rfl⟩ := Int.eq_ofNat_of_zero_le h0
  rw [show (4294967295 : Int) = ((4294967295 : Nat) : Int) from rfl, u64_and_nat n 4294967295 (by omega) (by omega), show (4294967295 : Nat) = 2 ^ 32 - 1 from rfl, Nat.and_two_pow_sub_one_eq_mod]
  omega
theorem or_apart {a b : Int} {s : Nat} (ha : 0 ≤ a) (hb0 : 0 ≤ b) (hb : b < 2 ^ s) (hs : s ≤ 63) (h : a * 2 ^ s < 18446744073709551616) : Go.bits .or .u64 (a * 2 ^ s) b = a * 2 ^ s + b := by
  obtain ⟨n, rfl⟩ := Int.eq_ofNat_of_zero_le ha
  obtain ⟨m, rfl⟩ := Int.eq_ofNat_of_zero_le hb0
  have hm : m < 2 ^ s := by exact_mod_cast hb
  have hn : n * 2 ^ s < 18446744073709551616 := by
    refine Int.ofNat_lt.mp ?_
    rw [Int.natCast_mul, Int.natCast_pow]; exact h
  have hp : 2 ^ s ≤ 2 ^ 63 := Nat.pow_le_pow_right (by decide) hs
  rw [show (n : Int) * 2 ^ s = ((n * 2 ^ s : Nat) : Int) by push_cast; rfl, u64_or_nat _ _ hn (by omega), nat_join s _ _ (by simp) hm]
  push_cast; rfl
theorem two_digits {U u1 u0 y : Int} (hy : 0 < y) :
    (U * 4294967296 + u1) / y * 4294967296 + ((U * 4294967296 + u1) % y * 4294967296 + u0) / y = ((U * 4294967296 + u1) * 4294967296 + u0) / y ∧
    ((U * 4294967296 + u1) % y * 4294967296 + u0) % y = ((U * 4294967296 + u1) * 4294967296 + u0) % y := by
  generalize U * 4294967296 + u1 = V
  have e := Int.mul_ediv_add_emod V y
  generalize V / y = q at *
  generalize V % y = r at *
  have e2 : V * 4294967296 + u0 = (r * 4294967296 + u0) + y * (q * 4294967296) := by
    rw [← e, Int.add_mul, ← Int.mul_assoc]; omega
  rw [e2, Int.add_mul_ediv_left _ _ (by omega), Int.add_mul_emod_self_left]
  omega
theorem Div64_ev (hi lo d : Int) (h0 : 0 ≤ hi) (h1 : hi < d) (hd : d < 18446744073709551616) (l0 : 0 ≤ lo) (l1 : lo < 18446744073709551616) :
    ∃ k, bits_Div64.f k hi lo d = some ((hi * 18446744073709551616 + lo) / d, (hi * 18446744073709551616 + lo) % d) := by
  by_cases hz : hi = 0
  · refine ⟨0, ?_⟩
    unfold bits_Div64.f
    have q0 : 0 ≤ lo / d := Int.ediv_nonneg l0 (by omega)
    have q1 : lo / d < 18446744073709551616 := by
      rw [Int.ediv_lt_iff_lt_mul (by omega)]
      have : 18446744073709551616 * 1 ≤ 18446744073709551616 * d := Int.mul_le_mul_of_nonneg_left (by omega) (by omega)
      omega
    rw [if_neg (by omega), if_neg (by omega), if_pos hz, Int.tdiv_eq_ediv_of_nonneg l0, Int.tmod_eq_emod_of_nonneg l0, u64in q0 q1, hz]
    simp
  · obtain ⟨s, hs, hl, n0, n1⟩ := leading d (by omega) hd
    have hp : (0 : Int) < 2 ^ s := Int.pow_pos (by decide)
    have ep : (2 : Int) ^ s * 2 ^ (64 - s) = 18446744073709551616 := by rw [← Int.pow_add, show s + (64 - s) = 64 by omega]; rfl
    have hp2 : (0 : Int) < 2 ^ (64 - s) := Int.pow_pos (by decide)
    have us : IntKind.u64.wrap (s : Int) = (s : Int) := u64in (by omega) (by omega)
    have us2 : IntKind.u64.wrap (64 - (s : Int)) = ((64 - s : Nat) : Int) := by rw [u64in (by omega) (by omega)]; omega
    have sh : ∀ x : Int, shl .u64 x (s : Int) = x * 2 ^ s % 18446744073709551616 := fun x => by
      unfold shl; rw [IntKind.wrap_u64, Int.toNat_natCast, Nat.min_eq_left (by simp [IntKind.bits]; omega)]
    have sr : ∀ x : Int, shr .u64 x ((64 - s : Nat) : Int) = x / 2 ^ (64 - s) := fun x => by
      unfold shr; rw [Int.toNat_natCast, Nat.min_eq_left (by simp [IntKind.bits])]
    have sr2 : ∀ x : Int, shr .u64 x (s : Int) = x / 2 ^ s := fun x => by
      unfold shr; rw [Int.toNat_natCast, Nat.min_eq_left (by simp [IntKind.bits]; omega)]
    have hd0 : 0 ≤ d * 2 ^ s := by omega
    have hhi : hi * 2 ^ s + 2 ^ s ≤ d * 2 ^ s := by
      have := Int.mul_le_mul_of_nonneg_right (show hi + 1 ≤ d by omega) (Int.le_of_lt hp)
      rw [Int.add_mul] at this; omega
    have hhi0 : 0 ≤ hi * 2 ^ s := Int.mul_nonneg h0 (by omega)
    have t0 : 0 ≤ lo / 2 ^ (64 - s) := Int.ediv_nonneg l0 (by omega)
    have t1 : lo / 2 ^ (64 - s) < 2 ^ s := by rw [Int.ediv_lt_iff_lt_mul hp2, ep]; exact l1
    have dsh : shl .u64 d (s : Int) = d * 2 ^ s := by rw [sh]; omega
    have hsh : shl .u64 hi (s : Int) = hi * 2 ^ s := by rw [sh]; omega
    have lsh : shl .u64 lo (s : Int) = lo * 2 ^ s % 18446744073709551616 := sh lo
    have hor : Go.bits .or .u64 (hi * 2 ^ s) (lo / 2 ^ (64 - s)) = hi * 2 ^ s + lo / 2 ^ (64 - s) := or_apart h0 t0 t1 hs (by omega)
    -- the low word, shifted
    have el : lo * 2 ^ s = lo / 2 ^ (64 - s) * 18446744073709551616 + lo * 2 ^ s % 18446744073709551616 := by
      have a := Int.mul_ediv_add_emod (lo * 2 ^ s) 18446744073709551616
      have b : lo * 2 ^ s / 18446744073709551616 = lo / 2 ^ (64 - s) := by
        rw [← ep, Int.mul_comm lo, Int.mul_ediv_mul_of_pos _ _ hp]
      rw [b] at a; omega
    have m0 := Int.emod_nonneg (lo * 2 ^ s) (show (18446744073709551616 : Int) ≠ 0 by decide)
    have m1 := Int.emod_lt_of_pos (lo * 2 ^ s) (show (0 : Int) < 18446744073709551616 by decide)
    obtain ⟨U, hU⟩ : ∃ U, U = hi * 2 ^ s + lo / 2 ^ (64 - s) := ⟨_, rfl⟩
    obtain ⟨L, hL⟩ : ∃ L, L = lo * 2 ^ s % 18446744073709551616 := ⟨_, rfl⟩
    have whole : (U * 4294967296 + L / 4294967296) * 4294967296 + L % 4294967296 = (hi * 18446744073709551616 + lo) * 2 ^ s := by
      have e3 := Int.add_mul (hi * 18446744073709551616) lo (2 ^ s)
      have e4 := Int.mul_right_comm hi 18446744073709551616 (2 ^ s)
      rw [e3, e4, el, ← hL, hU]; omega
    have y0 : d * 2 ^ s = d * 2 ^ s / 4294967296 * 4294967296 + d * 2 ^ s % 4294967296 := by omega
    have b1 : 2147483648 ≤ d * 2 ^ s / 4294967296 := by omega
    have b2 : d * 2 ^ s / 4294967296 < 4294967296 := by omega
    have b3 : 0 ≤ d * 2 ^ s % 4294967296 := by omega
    have b4 : d * 2 ^ s % 4294967296 < 4294967296 := by omega
    have c1 : 0 ≤ L / 4294967296 := by omega
    have c2 : L / 4294967296 < 4294967296 := by omega
    have c3 : 0 ≤ L % 4294967296 := by omega
    have c4 : L % 4294967296 < 4294967296 := by omega
    have E := Est.first (n := L / 4294967296) y0 b1 b2 b3 b4 (show 0 ≤ U by omega) (show U < d * 2 ^ s by omega) c1 c2
    have r2 := Int.mul_ediv_add_emod U (d * 2 ^ s / 4294967296)
    have r3 := Int.emod_nonneg U (show d * 2 ^ s / 4294967296 ≠ 0 by omega)
    have r4 := Int.emod_lt_of_pos U (show 0 < d * 2 ^ s / 4294967296 by omega)
    rw [Int.mul_comm] at r2
    have v0 : 0 ≤ U / (d * 2 ^ s / 4294967296) := Int.ediv_nonneg (by omega) (by omega)
    have v1 : 0 ≤ U / (d * 2 ^ s / 4294967296) * (d * 2 ^ s / 4294967296) := Int.mul_nonneg v0 (by omega)
    have E1 := E.q1
    have E2 := E.pos
    obtain ⟨k, hk⟩ := high_step (d * 2 ^ s) s _ _ _ (L % 4294967296) U (by omega) n1 c3 c4 (U / (d * 2 ^ s / 4294967296) - (U * 4294967296 + L / 4294967296) / (d * 2 ^ s)).toNat _ _ (by omega) (by omega) E
    obtain ⟨z1, z2⟩ := two_digits (U := U) (u1 := L / 4294967296) (u0 := L % 4294967296) (y := d * 2 ^ s) (by omega)
    have em : (hi * 18446744073709551616 + lo) * 2 ^ s % (d * 2 ^ s) = (hi * 18446744073709551616 + lo) % d * 2 ^ s := by
      rw [Int.mul_comm _ (2 ^ s), Int.mul_comm d, Int.mul_emod_mul_of_pos _ _ hp, Int.mul_comm]
    rw [z1, z2, sr2, whole, em, Int.mul_ediv_mul_of_pos_left _ _ hp, Int.mul_ediv_cancel _ (by omega)] at hk
    refine ⟨k + 1, ?_⟩
    unfold bits_Div64.f
    rw [if_neg (by omega), if_neg (by omega), if_neg hz, hl, Option.bind_some, us, us2, if_pos (by omega), if_pos (by omega), dsh, hsh, lsh, sr, hor, ← hL, ← hU, if_neg (by omega), and_mask_B (by omega) n1, and_mask_B (by omega) (by omega), Int.tdiv_eq_ediv_of_nonneg (by omega), u64in v0 (by omega), u64in v1 (by omega), u64in (n := U - _) (by omega) (by omega)]
    exact (bits_Div64.mono_l k).2.2.2.1 _ _ _ _ _ _ _ _ _ _ hk
end Go.Proofs.YtfhadnhpognefaaGreatDoor.Fx
