/- The reference's long numbers, last: quotient and rest, the number with its sign; and the reference's quotient of a product. -/
import Derived.Test.YtfhadnhpognefaaGreatDoorFxLong2
namespace Go.Proofs.YtfhadnhpognefaaGreatDoor.Fx
open Go Go.RowKit Go.Proofs.YtfhadnhpognefaaGreatDoorW.PrintWords Go.Proofs.YtfhadnhpognefaaGreatDoorW.PrintLast Go.Proofs.YtfhadnhpognefaaGreatDoorW.PrintMore Go.Proofs.YtfhadnhpognefaaGreatDoor.PRef

/-! ### divide -/
theorem val_split (a : List Int) (ha : Dig a) (j : Nat) (m : Nat) : ∃ H, 0 ≤ H ∧ pv a (j + 1 + m) = pv a j + 65536 ^ j * (D a j + 65536 * H) := by
  induction m with
  | zero => exact ⟨0, Int.le_refl _, by rw [Nat.add_zero, pv, Int.mul_zero, Int.add_zero, Int.mul_comm]⟩
  | succ m ih =>
    obtain ⟨H, h0, h⟩ := ih
    obtain ⟨d0, _⟩ := ha (j + 1 + m)
    refine ⟨H + 65536 ^ m * D a (j + 1 + m), Int.add_nonneg h0 (Int.mul_nonneg (by have := pow_pos' m; omega) d0), ?_⟩
    rw [← Nat.add_assoc, pv, h, Int.pow_add, pow_s]
    generalize (65536 : Int) ^ j = P
    generalize (65536 : Int) ^ m = R
    grind
theorem bit_small (d H : Int) (t : Nat) (ht : t < 16) : (d + 65536 * H) / 2 ^ t % 2 = d / 2 ^ t % 2 := by
  have : t = 0 ∨ t = 1 ∨ t = 2 ∨ t = 3 ∨ t = 4 ∨ t = 5 ∨ t = 6 ∨ t = 7 ∨ t = 8 ∨ t = 9 ∨ t = 10 ∨ t = 11 ∨ t = 12 ∨ t = 13 ∨ t = 14 ∨ t = 15 := by omega
  rcases this with rfl | rfl | rfl | rfl | rfl | rfl | rfl | rfl | rfl | rfl | rfl | rfl | rfl | rfl | rfl | rfl <;> simp only [Int.reducePow] <;> omega
theorem two_pow_split (j t : Nat) : (2 : Int) ^ (16 * j + t) = 65536 ^ j * 2 ^ t := by
  rw [Int.pow_add, Int.pow_mul]; rfl
theorem bit_val {a : List Int} (ha : Dig a) (i : Nat) : val a / 2 ^ i % 2 = D a (i / 16) / 2 ^ (i % 16) % 2 := by
  obtain ⟨j, hj⟩ : ∃ j, j = i / 16 := ⟨_, rfl⟩
  obtain ⟨t, ht⟩ : ∃ t, t = i % 16 := ⟨_, rfl⟩
  have hi : i = 16 * j + t := by omega
  have htl : t < 16 := by omega
  rw [← hj, ← ht, hi, two_pow_split, ← pv_ge (a := a) (j + 1 + a.length) (by omega)]
  obtain ⟨H, _, h⟩ := val_split a ha j a.length
  obtain ⟨p0, p1⟩ := pv_range ha j
  have hp := pow_pos' j
  rw [h, ← Int.ediv_ediv_of_nonneg (Int.le_of_lt hp), Int.add_mul_ediv_left _ _ (by omega), Int.ediv_eq_zero_of_lt p0 p1, Int.zero_add]
  exact bit_small _ _ t htl
theorem half (A : Int) (n : Nat) : A / 2 ^ n = 2 * (A / 2 ^ (n + 1)) + A / 2 ^ n % 2 := by
  have h2 : (0 : Int) < 2 ^ n := Int.pow_pos (by decide)
  have : A / 2 ^ (n + 1) = A / 2 ^ n / 2 := by rw [Int.pow_succ, Int.ediv_ediv_of_nonneg (by omega)]
  rw [this]; omega

theorem shr_bit {x : Int} (h0 : 0 ≤ x) (h1 : x < 65536) (t : Nat) (ht : t < 16) : Go.bits .and .u32 (shr .u32 x (t : Int)) 1 = x / 2 ^ t % 2 := by
  have e : shr .u32 x (t : Int) = x / 2 ^ t := by
    unfold shr
    rw [Int.toNat_natCast, Nat.min_eq_left (by show t ≤ 32; omega)]
  have hp : (0 : Int) < 2 ^ t := Int.pow_pos (by decide)
  have hn : 0 ≤ x / 2 ^ t := Int.ediv_nonneg h0 (by omega)
  have hl : x / 2 ^ t ≤ x := Int.ediv_le_self _ h0
  rw [e, and_one32 hn (by omega)]

set_option maxHeartbeats 1000000 in
theorem divide_l {a b : List Int} (ha : Dig a) (hb : Dig b) (hla : a.length ≤ 1000) (hlb : b.length ≤ 1000) (n : Nat) : ∀ (q r : List Int), n ≤ 16 * a.length → Dig q → Dig r → q.length + n ≤ 20000 → r.length + n ≤ 20000 →
    val a / 2 ^ n = val q * val b + val r → val r < val b →
    ∃ q' r', Ev (fun k => calamusref01_divide.l0 k a b q r ((n : Int) - 1)) (q', r') ∧ val a = val q' * val b + val r' ∧ val r' < val b ∧ Dig q' ∧ Dig r' ∧ q'.length ≤ 20000 ∧ r'.length ≤ 20000 := by
  induction n with
  | zero =>
    intro q r _ hq hr hql hrl he hlt
    refine ⟨q, r, ⟨1, fun k hk => ?_⟩, by simpa using he, hlt, hq, hr, by omega, by omega⟩
    obtain ⟨k, rfl⟩ : ∃ m, k = m + 1 := ⟨k - 1, by omega⟩
    simp only [calamusref01_divide.l0]
    rw [if_neg (by omega)]
  | succ n ih =>
    intro q r hn hq hr hql hrl he hlt
    obtain ⟨d0, d1⟩ := ha (n / 16)
    have e1 : ((n + 1 : Nat) : Int) - 1 = (n : Int) := by omega
    have hdv : wrap64 (Int.tdiv (n : Int) 16) = ((n / 16 : Nat) : Int) := by
      rw [Int.tdiv_eq_ediv_of_nonneg (by omega), w64 (by omega) (by omega)]; omega
    have hmd : Int.tmod (n : Int) 16 = ((n % 16 : Nat) : Int) := by rw [Int.tmod_eq_emod_of_nonneg (by omega)]; omega
    have hw : wrap64 ((n : Int) - 1) = (n : Int) - 1 := w64 (by omega) (by omega)
    have Hdv := Lib.hid hdv; have Hmd := Lib.hid hmd; have Hw := Lib.hid hw
    clear hdv hmd hw
    have hbit : 0 ≤ val a / 2 ^ n % 2 ∧ val a / 2 ^ n % 2 ≤ 1 := by omega
    obtain ⟨r1, hr1, hv1, hd1, hl1⟩ := double_val hr (by omega) (val a / 2 ^ n % 2) hbit.1 hbit.2
    have hls := less_val hd1 hb (by omega) (by omega)
    have hA := half (val a) n
    obtain ⟨A1, hA1⟩ : ∃ A1, A1 = val a / 2 ^ n := ⟨_, rfl⟩
    rw [← hA1] at hA hv1 ih hbit
    simp only [← hA1] at hr1
    rw [he] at hA
    have goStep : ∀ (k : Nat), calamusref01_divide.l0 (k + 1) a b q r (((n + 1 : Nat) : Int) - 1) = (calamusref01_double.f k r (A1 % 2)).bind fun t193 => ((calamusref01_less.f k t193 b).bind fun t196 => (if t196 = true then ((calamusref01_double.f k q 0).bind fun t197 => (calamusref01_divide.l0 k a b t197 t193 ((n : Int) - 1))) else ((calamusref01_minus.f k t193 b).bind fun t200 => ((calamusref01_double.f k q 1).bind fun t203 => (calamusref01_divide.l0 k a b t203 t200 ((n : Int) - 1)))))) := by
      intro k
      rw [e1]
      simp only [calamusref01_divide.l0, Hdv.out, Hmd.out, Hw.out, rd_D]
      rw [if_pos (by omega), if_pos (by omega), if_pos (by omega), if_pos (by omega), shr_bit d0 d1 _ (by omega), hA1, bit_val ha n]
    by_cases hlt1 : val r1 < val b
    · obtain ⟨q1, hq1, hvq, hdq, hlq⟩ := double_val hq (by omega) 0 (by omega) (by omega)
      obtain ⟨q', r', hE, hfin⟩ := ih q1 r1 (by omega) hdq hd1 (by omega) (by omega) (by rw [hA, hvq, hv1]; grind) hlt1
      refine ⟨q', r', Ev.step goStep (Ev.bind hr1 (Ev.bind hls ?_)), hfin⟩
      rw [decide_eq_true hlt1]
      simp only [if_true]
      exact Ev.bind hq1 hE
    · obtain ⟨q1, hq1, hvq, hdq, hlq⟩ := double_val hq (by omega) 1 (by omega) (by omega)
      obtain ⟨r2, hr2, hv2, hd2, hl2⟩ := minus_val hd1 hb (by omega) (by omega)
      have hrn := val_nonneg hr
      obtain ⟨q', r', hE, hfin⟩ := ih q1 r2 (by omega) hdq hd2 (by omega) (by omega) (by rw [hA, hvq, hv2, hv1]; grind) (by omega)
      refine ⟨q', r', Ev.step goStep (Ev.bind hr1 (Ev.bind hls ?_)), hfin⟩
      rw [decide_eq_false hlt1]
      simp only [Bool.false_eq_true, if_false]
      exact Ev.bind hr2 (Ev.bind hq1 hE)
theorem divide_val {a b : List Int} (ha : Dig a) (hb : Dig b) (hla : a.length ≤ 1000) (hlb : b.length ≤ 1000) (hpos : 0 < val b) :
    ∃ q r, Ev (fun k => calamusref01_divide.f k a b) (q, r) ∧ val q = val a / val b ∧ val r = val a % val b ∧ Dig q ∧ Dig r ∧ q.length ≤ 20000 ∧ r.length ≤ 20000 := by
  have hw : wrap64 (wrap64 (16 * (a.length : Int)) - 1) = ((16 * a.length : Nat) : Int) - 1 := by rw [w64 (n := 16 * (a.length : Int)) (by omega) (by omega), w64 (by omega) (by omega)]; omega
  have h0 : val a / 2 ^ (16 * a.length) = val ([] : List Int) * val b + val ([] : List Int) := by
    have h1 := val_lt ha (Nat.le_refl _)
    have : (2 : Int) ^ (16 * a.length) = 65536 ^ a.length := by rw [Int.pow_mul]; rfl
    rw [this, Int.ediv_eq_zero_of_lt (val_nonneg ha) h1]; simp [val, pv]
  obtain ⟨q, r, hE, he, hlt, hq, hr, hlq, hlr⟩ := divide_l ha hb hla hlb (16 * a.length) [] [] (by omega) Dig_nil Dig_nil (by simp; omega) (by simp; omega) h0 (by simpa [val, pv] using hpos)
  have hrn := val_nonneg hr
  refine ⟨q, r, Ev.congr (fun k => ?_) hE, ?_, ?_, hq, hr, hlq, hlr⟩
  · simp only [calamusref01_divide.f, hw]
  · rw [he, Int.add_comm, Int.add_mul_ediv_right _ _ (by omega), Int.ediv_eq_zero_of_lt hrn hlt, Int.zero_add]
  · rw [he, Int.add_comm, Int.add_mul_emod_self_right, Int.emod_eq_of_lt hrn hlt]

/-! ### number -/
def fin (neg : Bool) (n : Int) : Int × Int := flow (if neg = true then -n else n)
theorem or_mask (x y : Int) (hx0 : 0 ≤ x) (hx1 : x < 281474976710656) (hy0 : 0 ≤ y) (hy1 : y < 65536) : Go.bits .or .u64 (x * 65536) y = x * 65536 + y := by
  obtain ⟨n, rfl⟩ := Int.eq_ofNat_of_zero_le hx0
  obtain ⟨m, rfl⟩ := Int.eq_ofNat_of_zero_le hy0
  rw [show ((n : Int) * 65536) = ((n * 65536 : Nat) : Int) by omega, u64_or_nat _ _ (by omega) (by omega)]
  have : n * 65536 ||| m = n * 65536 + m := by
    rw [show n * 65536 = n <<< 16 by rw [Nat.shiftLeft_eq], Nat.shiftLeft_add_eq_or_of_lt (show m < 2 ^ 16 by omega)]
  rw [this]; omega
theorem j2_ev (neg : Bool) (n : Int) (h0 : 0 ≤ n) (h1 : n < 18446744073709551616) :
    Ev (fun k => if neg = true then (calamusref01_number.j2 k neg n (n == 9223372036854775808)) else (calamusref01_number.j2 k neg n false)) (fin neg n) := by
  refine ⟨1, fun k hk => ?_⟩
  obtain ⟨k, rfl⟩ : ∃ m, k = m + 1 := ⟨k - 1, by omega⟩
  cases neg
  · simp only [Bool.false_eq_true, if_false, calamusref01_number.j2, fin]
    by_cases h : n ≥ 9223372036854775808
    · rw [if_pos h, flow_over (by omega)]
    · rw [if_neg h, flow_in (by omega) (by omega), w64 (by omega) (by omega)]
  · simp only [if_true, calamusref01_number.j2, fin]
    by_cases e : n = 9223372036854775808
    · subst e
      rw [if_pos (by decide), flow_in (by omega) (by omega)]
    · rw [if_neg (by simpa using e)]
      by_cases h : n ≥ 9223372036854775808
      · rw [if_pos h, flow_over (by omega)]
      · rw [if_neg h, flow_in (by omega) (by omega), w64 (n := n) (by omega) (by omega), w64 (by omega) (by omega)]
theorem number_low {a : List Int} (ha : Dig a) (neg : Bool) (m : Nat) : ∀ n : Int, m ≤ 4 → m ≤ a.length → 0 ≤ n → n < 65536 ^ (4 - m) →
    Ev (fun k => calamusref01_number.l0 k a neg n ((m : Int) - 1)) (fin neg (n * 65536 ^ m + pv a m)) := by
  induction m with
  | zero =>
    intro n _ _ h0 h1
    refine Ev.step (f := fun k => if neg = true then (calamusref01_number.j2 k neg n (n == 9223372036854775808)) else (calamusref01_number.j2 k neg n false)) (fun k => ?_) ?_
    · simp only [calamusref01_number.l0]
      rw [if_neg (by omega)]
    · simp only [pv, Int.pow_zero, Int.mul_one, Int.add_zero]
      exact j2_ev neg n h0 (by simpa using h1)
  | succ m ih =>
    intro n hm hl h0 h1
    obtain ⟨d0, d1⟩ := ha m
    have e1 : ((m + 1 : Nat) : Int) - 1 = (m : Int) := by omega
    have hn : n < 281474976710656 := by
      have : m + 1 = 1 ∨ m + 1 = 2 ∨ m + 1 = 3 ∨ m + 1 = 4 := by omega
      rcases this with h | h | h | h <;> rw [h] at h1 <;> simp only [Nat.reduceSub, Int.reducePow] at h1 <;> omega
    have hb : n * 65536 + D a m < 65536 ^ (4 - m) := by
      have e : 4 - m = (4 - (m + 1)) + 1 := by omega
      rw [e, pow_s]; omega
    have h2 := ih (n * 65536 + D a m) (by omega) (by omega) (by omega) hb
    have hw := Lib.hid (w64 (n := (m : Int) - 1) (by omega) (by omega))
    have e2 : (n * 65536 + D a m) * 65536 ^ m + pv a m = n * 65536 ^ (m + 1) + pv a (m + 1) := by
      rw [pv, pow_s]; generalize (65536 : Int) ^ m = P; grind
    rw [← e2]
    refine Ev.step (f := fun k => calamusref01_number.j1 k a neg n (m : Int) false) (fun k => ?_) (Ev.step (fun k => ?_) h2)
    · rw [e1]
      simp only [calamusref01_number.l0]
      rw [if_pos (by omega), if_neg (by omega)]
    · simp only [calamusref01_number.j1, hw.out, rd_D]
      rw [if_neg (by decide), if_pos (by omega), if_pos (by omega), if_pos (by omega), u64in (n := n * 65536) (by omega) (by omega), u64in (n := D a m) (by omega) (by omega), or_mask n _ h0 hn d0 d1]
theorem number_high {a : List Int} (ha : Dig a) (neg : Bool) (hla : a.length ≤ 1000000) (m : Nat) : 4 ≤ m → m ≤ a.length → pv a a.length = pv a m →
    Ev (fun k => calamusref01_number.l0 k a neg 0 ((m : Int) - 1)) (fin neg (val a)) := by
  induction m with
  | zero => intro h; omega
  | succ m ih =>
    intro hm hl hp
    obtain ⟨d0, d1⟩ := ha m
    by_cases h4 : m + 1 = 4
    · rw [h4] at hp hl ⊢
      have := number_low ha neg 4 0 (Nat.le_refl _) hl (by omega) (by simp)
      rw [Int.zero_mul, Int.zero_add, ← hp] at this
      exact this
    · have e1 : ((m + 1 : Nat) : Int) - 1 = (m : Int) := by omega
      have hw := Lib.hid (w64 (n := (m : Int) - 1) (by omega) (by omega))
      refine Ev.step (f := fun k => calamusref01_number.j1 k a neg 0 (m : Int) (D a m != 0)) (fun k => ?_) ?_
      · rw [e1]
        simp only [calamusref01_number.l0, rd_D]
        rw [if_pos (by omega), if_pos (by omega), if_pos (by omega), if_pos (by omega)]
      · by_cases hz : D a m = 0
        · have h2 := ih (by omega) (by omega) (by rw [hp, pv, hz]; simp)
          refine Ev.step (fun k => ?_) h2
          simp only [calamusref01_number.j1, hw.out]
          rw [if_neg (by simp [hz]), if_neg (by omega)]
        · refine ⟨1, fun k hk => ?_⟩
          obtain ⟨k, rfl⟩ : ∃ m, k = m + 1 := ⟨k - 1, by omega⟩
          simp only [calamusref01_number.j1]
          rw [if_pos (by simpa using hz)]
          have hv : (18446744073709551616 : Int) ≤ val a := by
            have h3 : (65536 : Int) ^ 4 ≤ 65536 ^ m := by
              obtain ⟨j, rfl⟩ : ∃ j, m = 4 + j := ⟨m - 4, by omega⟩
              rw [Int.pow_add]
              have := pow_pos' j
              have : (65536 : Int) ^ 4 * 1 ≤ 65536 ^ 4 * 65536 ^ j := Int.mul_le_mul_of_nonneg_left (by omega) (by decide)
              omega
            have h4 : 1 * (65536 : Int) ^ m ≤ D a m * 65536 ^ m := Int.mul_le_mul_of_nonneg_right (by omega) (by have := pow_pos' m; omega)
            have h5 := (pv_range ha m).1
            have h6 : val a = pv a m + D a m * 65536 ^ m := by unfold val; rw [hp, pv]
            have h7 : (65536 : Int) ^ 4 = 18446744073709551616 := by decide
            omega
          unfold fin
          rw [flow_over]
          cases neg
          · simp only [Bool.false_eq_true, if_false]; omega
          · simp only [if_true]; omega
theorem number_val {a : List Int} (ha : Dig a) (neg : Bool) (hla : a.length ≤ 1000000) : Ev (fun k => calamusref01_number.f k a neg) (fin neg (val a)) := by
  have hw := Lib.hid (w64 (n := (a.length : Int) - 1) (by omega) (by omega))
  refine Ev.congr (f := fun k => calamusref01_number.l0 k a neg 0 ((a.length : Int) - 1)) (fun k => ?_) ?_
  · simp only [calamusref01_number.f, hw.out]
  · by_cases h : 4 ≤ a.length
    · exact number_high ha neg hla a.length h (Nat.le_refl _) rfl
    · have := number_low ha neg a.length 0 (by omega) (Nat.le_refl _) (by omega) (pow_pos' _)
      rw [Int.zero_mul, Int.zero_add] at this
      exact this

/-! ### The reference's quotient of a product -/
theorem size_ev (n : Int) (h0 : -9223372036854775808 ≤ n) (h1 : n ≤ 9223372036854775807) : calamusref01_size.f n = some (n.natAbs : Int) := by
  unfold calamusref01_size.f
  by_cases h : n < 0
  · rw [if_pos h, w64 (n := n + 1) (by omega) (by omega), w64 (by omega) (by omega), u64in (n := -(n + 1)) (by omega) (by omega), u64in (by omega) (by omega)]
    congr 1; omega
  · rw [if_neg h, u64in (by omega) (by omega)]
    congr 1; omega
theorem fin_sign (neg : Bool) (q : Nat) : fin neg (q : Int) = flow (withSign neg q) := by unfold fin withSign; rfl

set_option maxHeartbeats 1000000 in
theorem quotient_ev (a b c : Int) (rnd : Bool) (ha0 : -9223372036854775808 ≤ a) (ha1 : a ≤ 9223372036854775807) (hb0 : -9223372036854775808 ≤ b) (hb1 : b ≤ 9223372036854775807) (hc0 : -9223372036854775808 ≤ c) (hc1 : c ≤ 9223372036854775807) :
    Ev (fun k => calamusref01_quotient.f k a b c rnd) (quot a b c rnd) := by
  by_cases hc : c = 0
  · refine ⟨0, fun k _ => ?_⟩
    simp only [calamusref01_quotient.f, quot, if_pos hc]
  have ea := size_ev a ha0 ha1
  have eb := size_ev b hb0 hb1
  have ec := size_ev c hc0 hc1
  obtain ⟨va, da, la⟩ := ofN_val (n := (a.natAbs : Int)) (by omega) (by omega)
  obtain ⟨vb, db, lb⟩ := ofN_val (n := (b.natAbs : Int)) (by omega) (by omega)
  obtain ⟨vc, dc, lc⟩ := ofN_val (n := (c.natAbs : Int)) (by omega) (by omega)
  have oa := of_ev (a.natAbs : Int) (by omega) (by omega)
  have ob := of_ev (b.natAbs : Int) (by omega) (by omega)
  have oc := of_ev (c.natAbs : Int) (by omega) (by omega)
  generalize ofN (a.natAbs : Int) = A at *
  generalize ofN (b.natAbs : Int) = B at *
  generalize ofN (c.natAbs : Int) = C at *
  obtain ⟨p, hp, vp, dp, lp⟩ := times_val da db (by omega)
  obtain ⟨q, r, hq, vq, vr, dq, dr, lq, lr⟩ := divide_val dp dc (by omega) (by omega) (by omega)
  obtain ⟨r2, hr2, vr2, dr2, lr2⟩ := double_val dr (by omega) 0 (by omega) (by omega)
  have hz := zero_val dr (by omega)
  have hl := less_val dr2 dc (by omega) (by omega)
  obtain ⟨q1, hq1, vq1, dq1, lq1⟩ := plusOne_val dq (by omega)
  rw [vp, va, vb, vc] at vq vr
  have vq' : val q = ((a.natAbs * b.natAbs / c.natAbs : Nat) : Int) := by rw [vq]; simp
  have vr' : val r = ((a.natAbs * b.natAbs % c.natAbs : Nat) : Int) := by rw [vr]; simp
  obtain ⟨Q, hQ⟩ : ∃ Q, Q = a.natAbs * b.natAbs / c.natAbs := ⟨_, rfl⟩
  obtain ⟨R, hR⟩ : ∃ R, R = a.natAbs * b.natAbs % c.natAbs := ⟨_, rfl⟩
  rw [← hQ] at vq'; rw [← hR] at vr'
  have tail : ∀ up : Bool, Ev (fun k => calamusref01_quotient.j1 k (sgn a b c) q up) (flow (withSign (sgn a b c) (Q + if up = true then 1 else 0))) := by
    intro up
    cases up
    · have hn := number_val dq (sgn a b c) (by omega)
      rw [vq', fin_sign] at hn
      refine Ev.step (f := fun k => (calamusref01_number.f k q (sgn a b c)).bind fun bt => some (bt.1, bt.2)) (fun k => ?_) (Ev.bind hn (Ev.now _))
      simp only [calamusref01_quotient.j1, Bool.false_eq_true, if_false]
    · have hn := number_val dq1 (sgn a b c) (by omega)
      rw [vq1, vq', show (Q : Int) + 1 = ((Q + 1 : Nat) : Int) by omega, fin_sign] at hn
      refine Ev.step (f := fun k => (calamusref01_plusOne.f k q).bind fun t => (calamusref01_number.f k t (sgn a b c)).bind fun bt => some (bt.1, bt.2)) (fun k => ?_) (Ev.bind hq1 (Ev.bind hn (Ev.now _)))
      simp only [calamusref01_quotient.j1, if_true]
  have mid : ∀ up : Bool, Ev (fun k => calamusref01_quotient.j0 k rnd (sgn a b c) C q r up) (flow (withSign (sgn a b c) (Q + if (if rnd = true then decide (c.natAbs ≤ 2 * R) else up) = true then 1 else 0))) := by
    intro up
    cases rnd
    · simp only [Bool.false_eq_true, if_false]
      refine Ev.step (fun k => ?_) (tail up)
      simp only [calamusref01_quotient.j0, Bool.false_eq_true, if_false]
    · simp only [if_true]
      have e : (!decide (val r2 < val C)) = decide (c.natAbs ≤ 2 * R) := by
        rw [← decide_not, decide_eq_decide, vr2, vr', vc]; omega
      refine Ev.step (f := fun k => (calamusref01_double.f k r 0).bind fun t => (calamusref01_less.f k t C).bind fun u => calamusref01_quotient.j1 k (sgn a b c) q (!u)) (fun k => ?_) (Ev.bind hr2 (Ev.bind hl ?_))
      · simp only [calamusref01_quotient.j0, if_true]
      · rw [e]; exact tail _
  have hgoal : quot a b c rnd = flow (withSign (sgn a b c) (Q + if (if rnd = true then decide (c.natAbs ≤ 2 * R) else (sgn a b c && decide (0 < R))) = true then 1 else 0)) := by
    unfold quot magQ upQ
    rw [if_neg hc, ← hQ, ← hR]
  rw [hgoal]
  refine Ev.congr (f := fun k => (calamusref01_of.f k (a.natAbs : Int)).bind fun x => (calamusref01_of.f k (b.natAbs : Int)).bind fun y => (calamusref01_times.f k x y).bind fun p => (calamusref01_of.f k (c.natAbs : Int)).bind fun z => (calamusref01_divide.f k p z).bind fun qr =>
      if sgn a b c = true then (calamusref01_zero.f k qr.2).bind fun t => calamusref01_quotient.j0 k rnd (sgn a b c) z qr.1 qr.2 (!t) else calamusref01_quotient.j0 k rnd (sgn a b c) z qr.1 qr.2 false) (fun k => ?_) ?_
  · simp only [calamusref01_quotient.f, ea, eb, ec, Option.bind_some, if_neg hc]
    rfl
  · refine Ev.bind oa (Ev.bind ob (Ev.bind hp (Ev.bind oc (Ev.bind hq ?_))))
    cases hs : sgn a b c
    · simp only [Bool.false_eq_true, if_false, Bool.false_and]
      rw [hs] at mid
      exact mid false
    · simp only [if_true, Bool.true_and]
      rw [hs] at mid
      have e : (!decide (val r = 0)) = decide (0 < R) := by rw [← decide_not, decide_eq_decide, vr']; omega
      refine Ev.bind hz ?_
      rw [e]
      exact mid _
theorem MulDiv_ev (a b c : Int) (ha0 : -9223372036854775808 ≤ a) (ha1 : a ≤ 9223372036854775807) (hb0 : -9223372036854775808 ≤ b) (hb1 : b ≤ 9223372036854775807) (hc0 : -9223372036854775808 ≤ c) (hc1 : c ≤ 9223372036854775807) :
    ∃ k, calamusref01_MulDiv.f k a b c = some ((quot a b c false).1, (quot a b c false).2) :=
  (Ev.congr (f := fun k => (calamusref01_quotient.f k a b c false).bind fun bt => some (bt.1, bt.2)) (fun _ => rfl) (Ev.bind (quotient_ev a b c false ha0 ha1 hb0 hb1 hc0 hc1) (Ev.now _))).rounds
theorem Round_ev (a b c : Int) (ha0 : -9223372036854775808 ≤ a) (ha1 : a ≤ 9223372036854775807) (hb0 : -9223372036854775808 ≤ b) (hb1 : b ≤ 9223372036854775807) (hc0 : -9223372036854775808 ≤ c) (hc1 : c ≤ 9223372036854775807) :
    ∃ k, calamusref01_Round.f k a b c = some ((quot a b c true).1, (quot a b c true).2) :=
  (Ev.congr (f := fun k => (calamusref01_quotient.f k a b c true).bind fun bt => some (bt.1, bt.2)) (fun _ => rfl) (Ev.bind (quotient_ev a b c true ha0 ha1 hb0 hb1 hc0 hc1) (Ev.now _))).rounds
end Go.Proofs.YtfhadnhpognefaaGreatDoor.Fx
