/- The reference's long numbers (lists of digits to the base 65536): what each printed function of them comes to, as a number. -/
import Derived.Test.YtfhadnhpognefaaGreatDoorPRefx
import Derived.Test.YtfhadnhpognefaaGreatDoorFxMath
import Derived.Laws.BitsAllLaws
namespace Go.Proofs.YtfhadnhpognefaaGreatDoor.Fx
open Go Go.RowKit Go.Proofs.YtfhadnhpognefaaGreatDoorW.PrintWords Go.Proofs.YtfhadnhpognefaaGreatDoorW.PrintLast Go.Proofs.YtfhadnhpognefaaGreatDoorW.PrintMore Go.Proofs.YtfhadnhpognefaaGreatDoor.PRef

theorem w64 {n : Int} (h0 : -9223372036854775808 ≤ n) (h1 : n ≤ 9223372036854775807) : wrap64 n = n := by unfold wrap64; omega
theorem u64in {n : Int} (h0 : 0 ≤ n) (h1 : n < 18446744073709551616) : IntKind.u64.wrap n = n := by rw [IntKind.wrap_u64]; omega

/-! ### Digits -/
def D (a : List Int) (j : Nat) : Int := a.getD j 0
def pv (a : List Int) : Nat → Int
  | 0 => 0
  | n + 1 => pv a n + D a n * 65536 ^ n
def val (a : List Int) : Int := pv a a.length
def Dig (a : List Int) : Prop := ∀ j, 0 ≤ D a j ∧ D a j < 65536

theorem rd_D (a : List Int) (j : Nat) : rd a (j : Int) = D a j := by simp [rd, D]
theorem D_over {a : List Int} {j : Nat} (h : a.length ≤ j) : D a j = 0 := by simp [D, List.getD_eq_getElem?_getD, List.getElem?_eq_none h]
theorem D_snoc_lt {a : List Int} {x : Int} {j : Nat} (h : j < a.length) : D (a ++ [x]) j = D a j := by
  simp [D, List.getD_eq_getElem?_getD, List.getElem?_append_left h]
theorem D_snoc_eq (a : List Int) (x : Int) : D (a ++ [x]) a.length = x := by simp [D, List.getD_eq_getElem?_getD]
theorem D_take {a : List Int} {n j : Nat} (h : j < n) : D (a.take n) j = D a j := by simp [D, List.getD_eq_getElem?_getD, h]
theorem D_take_ge {a : List Int} {n j : Nat} (h : n ≤ j) : D (a.take n) j = 0 := by
  simp [D, List.getD_eq_getElem?_getD, List.getElem?_take, show ¬ j < n by omega]
theorem D_set (a : List Int) (p : Nat) (v : Int) (j : Nat) : D (a.set p v) j = if p = j ∧ p < a.length then v else D a j := by
  simp only [D, List.getD_eq_getElem?_getD, List.getElem?_set]
  by_cases h : p = j
  · subst h
    by_cases h2 : p < a.length <;> simp [h2]
  · simp [h]

theorem pv_congr {a b : List Int} {n : Nat} (h : ∀ j, j < n → D a j = D b j) : pv a n = pv b n := by
  induction n with
  | zero => rfl
  | succ n ih => rw [pv, pv, ih (fun j hj => h j (by omega)), h n (by omega)]
theorem pv_ge {a : List Int} (n : Nat) (h : a.length ≤ n) : pv a n = val a := by
  induction n with
  | zero => have : a.length = 0 := by omega
            unfold val; rw [this]
  | succ n ih =>
    by_cases e : a.length = n + 1
    · unfold val; rw [e]
    · rw [pv, ih (by omega), D_over (by omega)]; simp
theorem pow_pos' (n : Nat) : (0 : Int) < 65536 ^ n := Int.pow_pos (by decide)
theorem pow_s (n : Nat) : (65536 : Int) ^ (n + 1) = 65536 * 65536 ^ n := by rw [Int.pow_succ, Int.mul_comm]
theorem pv_range {a : List Int} (h : Dig a) (n : Nat) : 0 ≤ pv a n ∧ pv a n < 65536 ^ n := by
  induction n with
  | zero => simp [pv]
  | succ n ih =>
    obtain ⟨d0, d1⟩ := h n
    have hp := pow_pos' n
    rw [pv, pow_s]
    have h1 : 0 ≤ D a n * 65536 ^ n := Int.mul_nonneg d0 (by omega)
    have h2 : D a n * 65536 ^ n ≤ 65535 * 65536 ^ n := Int.mul_le_mul_of_nonneg_right (by omega) (by omega)
    omega
theorem val_nonneg {a : List Int} (h : Dig a) : 0 ≤ val a := (pv_range h _).1
theorem val_lt {a : List Int} (h : Dig a) {n : Nat} (hn : a.length ≤ n) : val a < 65536 ^ n := by rw [← pv_ge n hn]; exact (pv_range h n).2

theorem Dig_nil : Dig [] := fun j => by simp [D]
theorem Dig_snoc {a : List Int} {x : Int} (h : Dig a) (h0 : 0 ≤ x) (h1 : x < 65536) : Dig (a ++ [x]) := fun j => by
  by_cases hj : j < a.length
  · rw [D_snoc_lt hj]; exact h j
  · by_cases e : j = a.length
    · subst e; rw [D_snoc_eq]; exact ⟨h0, h1⟩
    · rw [D_over (by simp; omega)]; omega
theorem Dig_take {a : List Int} (h : Dig a) (n : Nat) : Dig (a.take n) := fun j => by
  by_cases hj : j < n
  · rw [D_take hj]; exact h j
  · rw [D_take_ge (by omega)]; omega
theorem Dig_set {a : List Int} (h : Dig a) (p : Nat) {v : Int} (h0 : 0 ≤ v) (h1 : v < 65536) : Dig (a.set p v) := fun j => by
  rw [D_set]; split
  · exact ⟨h0, h1⟩
  · exact h j
theorem pv_snoc (a : List Int) (x : Int) : pv (a ++ [x]) (a.length + 1) = pv a a.length + x * 65536 ^ a.length := by
  rw [pv, D_snoc_eq, pv_congr (b := a) (fun j hj => D_snoc_lt hj)]
theorem val_snoc (a : List Int) (x : Int) : val (a ++ [x]) = val a + x * 65536 ^ a.length := by
  unfold val; rw [show (a ++ [x]).length = a.length + 1 by simp]; exact pv_snoc a x
theorem pv_set (a : List Int) (p : Nat) (v : Int) (hp : p < a.length) (n : Nat) : pv (a.set p v) n = pv a n + if p < n then (v - D a p) * 65536 ^ p else 0 := by
  induction n with
  | zero => simp [pv]
  | succ n ih =>
    rw [pv, pv, ih, D_set]
    by_cases h1 : p = n
    · subst h1; simp [hp, Int.sub_mul]; omega
    · by_cases h2 : p < n
      · rw [if_pos h2, if_neg (by omega), if_pos (by omega)]; omega
      · rw [if_neg h2, if_neg (by omega), if_neg (by omega)]; omega
theorem val_set (a : List Int) (p : Nat) (v : Int) (hp : p < a.length) : val (a.set p v) = val a + (v - D a p) * 65536 ^ p := by
  unfold val; rw [List.length_set, pv_set a p v hp, if_pos hp]

/-! ### trim -/
theorem trim_ev (n : Nat) : ∀ l : List Int, l.length = n → n ≤ 1000000 → ∃ r, Ev (fun k => calamusref01_trim.f k l) r ∧ val r = val l ∧ (Dig l → Dig r) ∧ r.length ≤ n := by
  induction n with
  | zero =>
    intro l hl _
    refine ⟨l, ⟨1, fun k hk => ?_⟩, rfl, id, by omega⟩
    obtain ⟨k, rfl⟩ : ∃ m, k = m + 1 := ⟨k - 1, by omega⟩
    simp only [calamusref01_trim.f, calamusref01_trim.l0]
    rw [if_neg (by omega)]
  | succ n ih =>
    intro l hl hn
    have hw : wrap64 ((l.length : Int) - 1) = (n : Int) := by rw [w64 (by omega) (by omega)]; omega
    by_cases h0 : D l n = 0
    · obtain ⟨r, hr, h1, h2, h3⟩ := ih (l.take n) (by simp; omega) (by omega)
      refine ⟨r, Ev.step (f := fun k => calamusref01_trim.f k (l.take n)) (fun k => ?_) hr, ?_, fun h => h2 (Dig_take h n), by omega⟩
      · simp only [calamusref01_trim.f, calamusref01_trim.l0, hw]
        rw [if_pos (by omega), if_pos (by omega), if_pos (by omega), if_pos (by rw [rd_D]; exact h0), if_pos (by omega), Int.toNat_natCast]
      · rw [h1]
        unfold val
        rw [hl, pv, h0, List.length_take, Nat.min_eq_left (by omega), pv_congr (b := l) (fun j hj => D_take hj)]
        simp
    · refine ⟨l, ⟨1, fun k hk => ?_⟩, rfl, id, by omega⟩
      obtain ⟨k, rfl⟩ : ∃ m, k = m + 1 := ⟨k - 1, by omega⟩
      simp only [calamusref01_trim.f, calamusref01_trim.l0, hw]
      rw [if_pos (by omega), if_pos (by omega), if_pos (by omega), if_neg (by rw [rd_D]; exact h0)]

/-! ### of -/
theorem and_mask {x : Int} (h0 : 0 ≤ x) (h1 : x < 18446744073709551616) : Go.bits .and .u64 x 65535 = x % 65536 := by
  obtain ⟨n, rfl⟩ := Int.eq_ofNat_of_zero_le h0
  rw [show (65535 : Int) = ((65535 : Nat) : Int) from rfl, u64_and_nat n 65535 (by omega) (by omega), show (65535 : Nat) = 2 ^ 16 - 1 from rfl, Nat.and_two_pow_sub_one_eq_mod]
  omega
theorem and_mask32 {x : Int} (h0 : 0 ≤ x) (h1 : x < 4294967296) : Go.bits .and .u32 x 65535 = x % 65536 := by
  obtain ⟨n, rfl⟩ := Int.eq_ofNat_of_zero_le h0
  rw [show (65535 : Int) = ((65535 : Nat) : Int) from rfl, u32_and_nat n 65535 (by omega) (by omega), show (65535 : Nat) = 2 ^ 16 - 1 from rfl, Nat.and_two_pow_sub_one_eq_mod]
  omega
theorem and_one32 {x : Int} (h0 : 0 ≤ x) (h1 : x < 4294967296) : Go.bits .and .u32 x 1 = x % 2 := by
  obtain ⟨n, rfl⟩ := Int.eq_ofNat_of_zero_le h0
  rw [show (1 : Int) = ((1 : Nat) : Int) from rfl, u32_and_nat n 1 (by omega) (by omega), show (1 : Nat) = 2 ^ 1 - 1 from rfl, Nat.and_two_pow_sub_one_eq_mod]
  omega

def ofN (n : Int) : List Int := [n % 65536, n / 65536 % 65536, n / 4294967296 % 65536, n / 281474976710656 % 65536]
theorem of_ev (n : Int) (h0 : 0 ≤ n) (h1 : n < 18446744073709551616) : Ev (fun k => calamusref01_of.f k n) (ofN n) := by
  refine ⟨5, fun k hk => ?_⟩
  obtain ⟨k, rfl⟩ : ∃ m, k = m + 5 := ⟨k - 5, by omega⟩
  simp only [calamusref01_of.f]
  have e0 : shr .u64 n (wrap64 (16 * 0)) = n := by simp [shr, wrap64]
  have e1 : shr .u64 n (wrap64 (16 * 1)) = n / 65536 := by simp [shr, wrap64, IntKind.bits]
  have e2 : shr .u64 n (wrap64 (16 * 2)) = n / 4294967296 := by simp [shr, wrap64, IntKind.bits]
  have e3 : shr .u64 n (wrap64 (16 * 3)) = n / 281474976710656 := by simp [shr, wrap64, IntKind.bits]
  rw [show k + 5 = k + 4 + 1 from rfl, calamusref01_of.l0, if_pos (by omega), if_pos (by unfold wrap64; omega), if_pos (by simp), e0, and_mask h0 h1, show wrap64 (0 + 1) = 1 by unfold wrap64; omega,
    calamusref01_of.l0, if_pos (by omega), if_pos (by unfold wrap64; omega), if_pos (by simp), e1, and_mask (by omega) (by omega), show wrap64 (1 + 1) = 2 by unfold wrap64; omega,
    calamusref01_of.l0, if_pos (by omega), if_pos (by unfold wrap64; omega), if_pos (by simp), e2, and_mask (by omega) (by omega), show wrap64 (2 + 1) = 3 by unfold wrap64; omega,
    calamusref01_of.l0, if_pos (by omega), if_pos (by unfold wrap64; omega), if_pos (by simp), e3, and_mask (by omega) (by omega), show wrap64 (3 + 1) = 4 by unfold wrap64; omega,
    calamusref01_of.l0, if_neg (by omega)]
  simp only [List.nil_append, List.cons_append, ofN]
  congr 1
  simp only [List.cons.injEq, and_true]
  omega
theorem ofN_val {n : Int} (h0 : 0 ≤ n) (h1 : n < 18446744073709551616) : val (ofN n) = n ∧ Dig (ofN n) ∧ (ofN n).length = 4 := by
  refine ⟨?_, fun j => ?_, rfl⟩
  · simp only [val, ofN, List.length_cons, List.length_nil, pv, D, List.getD_cons_zero, List.getD_cons_succ, Nat.zero_add, Int.pow_zero]
    omega
  · rcases j with _ | _ | _ | _ | j <;> simp [D, ofN] <;> omega

/-! ### less -/
theorem div_pow_D {a : List Int} (h : Dig a) (n j : Nat) : pv a (n + j) = pv a n ∨ 65536 ^ n ≤ pv a (n + j) := by
  induction j with
  | zero => exact .inl rfl
  | succ j ih =>
    obtain ⟨d0, d1⟩ := h (n + j)
    have hp := pow_pos' (n + j)
    rw [show n + (j + 1) = n + j + 1 from rfl, pv]
    have hle : (65536 : Int) ^ n ≤ 65536 ^ (n + j) := by
      rw [Int.pow_add]
      have := pow_pos' j; have := pow_pos' n
      have : (65536 : Int) ^ n * 1 ≤ 65536 ^ n * 65536 ^ j := Int.mul_le_mul_of_nonneg_left (by omega) (by omega)
      omega
    have hr := (pv_range h (n + j)).1
    by_cases e : D a (n + j) = 0
    · rw [e]; simp only [Int.zero_mul, Int.add_zero]; exact ih
    · right
      have : 1 * (65536 : Int) ^ (n + j) ≤ D a (n + j) * 65536 ^ (n + j) := Int.mul_le_mul_of_nonneg_right (by omega) (by omega)
      omega

theorem less_ev {a b : List Int} (ha : Dig a) (hb : Dig b) (n : Nat) (hn : n ≤ 1000000) :
    Ev (fun k => calamusref01_less.l0 k a b ((n : Int) - 1)) (decide (pv a n < pv b n)) := by
  induction n with
  | zero =>
    refine ⟨1, fun k hk => ?_⟩
    obtain ⟨k, rfl⟩ : ∃ m, k = m + 1 := ⟨k - 1, by omega⟩
    simp [calamusref01_less.l0, pv]
  | succ n ih =>
    have ih := ih (by omega)
    have e1 : ((n + 1 : Nat) : Int) - 1 = n := by omega
    have hw : wrap64 ((n : Int) - 1) = (n : Int) - 1 := w64 (by omega) (by omega)
    have hra := pv_range ha n
    have hrb := pv_range hb n
    have hp := pow_pos' n
    have key : Ev (fun k => if D a n = D b n then calamusref01_less.l0 k a b ((n : Int) - 1) else some (decide (D a n < D b n))) (decide (pv a (n + 1) < pv b (n + 1))) := by
      rw [pv, pv]
      by_cases e : D a n = D b n
      · simp only [e, if_true]
        have : decide (pv a n + D b n * 65536 ^ n < pv b n + D b n * 65536 ^ n) = decide (pv a n < pv b n) := by
          congr 1; apply propext; omega
        rw [this]; exact ih
      · simp only [e, if_false]
        refine ⟨0, fun _ _ => ?_⟩
        show some _ = some _
        congr 1
        rw [decide_eq_decide]
        rcases Int.lt_or_gt_of_ne e with h | h
        · have : (D a n + 1) * 65536 ^ n ≤ D b n * 65536 ^ n := Int.mul_le_mul_of_nonneg_right (by omega) (by omega)
          rw [Int.add_mul, Int.one_mul] at this
          constructor <;> intro _ <;> omega
        · have : (D b n + 1) * 65536 ^ n ≤ D a n * 65536 ^ n := Int.mul_le_mul_of_nonneg_right (by omega) (by omega)
          rw [Int.add_mul, Int.one_mul] at this
          constructor <;> intro _ <;> omega
    rw [e1]
    have step2 : Ev (fun k => calamusref01_less.j1 k a b (n : Int) (D a n) 0) (decide (pv a (n + 1) < pv b (n + 1))) := by
      refine Ev.step (fun k => ?_) key
      simp only [calamusref01_less.j1, hw, rd_D]
      by_cases hlb : (n : Int) < (b.length : Int)
      · rw [if_pos hlb, if_pos (by omega)]
      · rw [if_neg hlb, D_over (a := b) (by omega)]
    refine Ev.step (f := fun k => calamusref01_less.j1 k a b (n : Int) (D a n) 0) (fun k => ?_) step2
    simp only [calamusref01_less.l0, rd_D]
    rw [if_pos (by omega)]
    by_cases hla : (n : Int) < (a.length : Int)
    · rw [if_pos hla, if_pos (by omega)]
    · rw [if_neg hla, D_over (a := a) (by omega)]
theorem less_val {a b : List Int} (ha : Dig a) (hb : Dig b) (hla : a.length ≤ 1000000) (hlb : b.length ≤ 1000000) :
    Ev (fun k => calamusref01_less.f k a b) (decide (val a < val b)) := by
  have hm : wrap64 (mx (a.length : Int) (b.length : Int) - 1) = ((max a.length b.length : Nat) : Int) - 1 := by
    have : mx (a.length : Int) (b.length : Int) = ((max a.length b.length : Nat) : Int) := by
      unfold mx; split <;> omega
    rw [this, w64 (by omega) (by omega)]
  refine Ev.congr (f := fun k => calamusref01_less.l0 k a b (((max a.length b.length : Nat) : Int) - 1)) (fun k => ?_) ?_
  · simp only [calamusref01_less.f, hm]
  · rw [← pv_ge (a := a) (max a.length b.length) (by omega), ← pv_ge (a := b) (max a.length b.length) (by omega)]
    exact less_ev ha hb _ (by omega)
theorem zero_val {a : List Int} (ha : Dig a) (hla : a.length ≤ 1000000) : Ev (fun k => calamusref01_zero.f k a) (decide (val a = 0)) := by
  have h1 : Dig [1] := fun j => by rcases j with _ | j <;> simp [D]
  have hv : val [1] = 1 := by simp [val, pv, D]
  have h := less_val ha h1 hla (by simp)
  rw [hv] at h
  have e : decide (val a < 1) = decide (val a = 0) := by
    rw [decide_eq_decide]; have := val_nonneg ha; omega
  rw [e] at h
  refine Ev.congr (f := fun k => (calamusref01_less.f k a [1]).bind fun t => some t) (fun k => rfl) ?_
  exact Ev.bind h (Ev.now _)

/-! ### double, plusOne, plus, minus -/
theorem double_l {a : List Int} (ha : Dig a) (hla : a.length ≤ 100000) (d : Nat) : ∀ (i : Nat) (bit : Int) (out : List Int), a.length - i = d → i ≤ a.length → out.length = i → Dig out → 0 ≤ bit → bit ≤ 1 →
    ∃ r, Ev (fun k => calamusref01_double.l0 k a bit out (i : Int)) r ∧ val r = val out + bit * 65536 ^ i + 2 * (val a - pv a i) ∧ Dig r ∧ r.length ≤ a.length + 1 := by
  induction d with
  | zero =>
    intro i bit out hd hi ho hdo h0 h1
    obtain rfl : i = a.length := by omega
    obtain ⟨r, hr, hv, hdr, hl⟩ := trim_ev (out ++ [bit]).length (out ++ [bit]) rfl (by simp; omega)
    refine ⟨r, Ev.step (f := fun k => (calamusref01_trim.f k (out ++ [bit])).bind fun t => some t) (fun k => ?_) (Ev.bind hr (Ev.now _)), ?_, hdr (Dig_snoc hdo h0 (by omega)), by simp at hl; omega⟩
    · simp only [calamusref01_double.l0]
      rw [if_neg (by omega), if_pos (by omega)]
    · rw [hv, val_snoc, ho]; unfold val; omega
  | succ d ih =>
    intro i bit out hd hi ho hdo h0 h1
    obtain ⟨d0, d1⟩ := ha i
    have hx : (D a i * 2 + bit) % 4294967296 = D a i * 2 + bit := by omega
    obtain ⟨r, hr, hv, hdr, hl⟩ := ih (i + 1) ((D a i * 2 + bit) / 65536) (out ++ [(D a i * 2 + bit) % 65536]) (by omega) (by omega) (by simp [ho]) (Dig_snoc hdo (by omega) (by omega)) (by omega) (by omega)
    refine ⟨r, Ev.step (fun k => ?_) hr, ?_, hdr, hl⟩
    · simp only [calamusref01_double.l0]
      rw [if_pos (by omega), if_pos (by omega), if_pos (by omega), rd_D, hx, and_mask32 (by omega) (by omega), w64 (by omega) (by omega)]
      rfl
    · rw [hv, val_snoc, ho, pv, pow_s]
      have e : D a i * 2 + bit = 65536 * ((D a i * 2 + bit) / 65536) + (D a i * 2 + bit) % 65536 := by omega
      generalize (D a i * 2 + bit) / 65536 = q at *
      generalize (D a i * 2 + bit) % 65536 = m at *
      generalize (65536 : Int) ^ i = P at *
      have e2 : (D a i * 2 + bit) * P = (65536 * q + m) * P := by rw [e]
      grind
theorem double_val {a : List Int} (ha : Dig a) (hla : a.length ≤ 100000) (bit : Int) (h0 : 0 ≤ bit) (h1 : bit ≤ 1) :
    ∃ r, Ev (fun k => calamusref01_double.f k a bit) r ∧ val r = 2 * val a + bit ∧ Dig r ∧ r.length ≤ a.length + 1 := by
  obtain ⟨r, hr, hv, hd, hl⟩ := double_l ha hla a.length 0 bit [] (by omega) (by omega) rfl Dig_nil h0 h1
  refine ⟨r, Ev.congr (fun k => rfl) hr, ?_, hd, hl⟩
  rw [hv]; simp [val, pv]; omega

theorem plusOne_l {a : List Int} (ha : Dig a) (hla : a.length ≤ 100000) (d : Nat) : ∀ (i : Nat) (c : Int) (out : List Int), a.length - i = d → i ≤ a.length → out.length = i → Dig out → 0 ≤ c → c ≤ 1 →
    ∃ r, Ev (fun k => calamusref01_plusOne.l0 k a out c (i : Int)) r ∧ val r = val out + c * 65536 ^ i + (val a - pv a i) ∧ Dig r ∧ r.length ≤ a.length + 1 := by
  induction d with
  | zero =>
    intro i c out hd hi ho hdo h0 h1
    obtain rfl : i = a.length := by omega
    obtain ⟨r, hr, hv, hdr, hl⟩ := trim_ev (out ++ [c]).length (out ++ [c]) rfl (by simp; omega)
    refine ⟨r, Ev.step (f := fun k => (calamusref01_trim.f k (out ++ [c])).bind fun t => some t) (fun k => ?_) (Ev.bind hr (Ev.now _)), ?_, hdr (Dig_snoc hdo h0 (by omega)), by simp at hl; omega⟩
    · simp only [calamusref01_plusOne.l0]
      rw [if_neg (by omega), if_pos (by omega)]
    · rw [hv, val_snoc, ho]; unfold val; omega
  | succ d ih =>
    intro i c out hd hi ho hdo h0 h1
    obtain ⟨d0, d1⟩ := ha i
    have hx : (D a i + c) % 4294967296 = D a i + c := by omega
    obtain ⟨r, hr, hv, hdr, hl⟩ := ih (i + 1) ((D a i + c) / 65536) (out ++ [(D a i + c) % 65536]) (by omega) (by omega) (by simp [ho]) (Dig_snoc hdo (by omega) (by omega)) (by omega) (by omega)
    refine ⟨r, Ev.step (fun k => ?_) hr, ?_, hdr, hl⟩
    · simp only [calamusref01_plusOne.l0]
      rw [if_pos (by omega), if_pos (by omega), if_pos (by omega), rd_D, hx, and_mask32 (by omega) (by omega), w64 (by omega) (by omega)]
      rfl
    · rw [hv, val_snoc, ho, pv, pow_s]
      have e : D a i + c = 65536 * ((D a i + c) / 65536) + (D a i + c) % 65536 := by omega
      generalize (D a i + c) / 65536 = q at *
      generalize (D a i + c) % 65536 = m at *
      generalize (65536 : Int) ^ i = P at *
      have e2 : (D a i + c) * P = (65536 * q + m) * P := by rw [e]
      grind
theorem plusOne_val {a : List Int} (ha : Dig a) (hla : a.length ≤ 100000) :
    ∃ r, Ev (fun k => calamusref01_plusOne.f k a) r ∧ val r = val a + 1 ∧ Dig r ∧ r.length ≤ a.length + 1 := by
  obtain ⟨r, hr, hv, hd, hl⟩ := plusOne_l ha hla a.length 0 1 [] (by omega) (by omega) rfl Dig_nil (by omega) (by omega)
  refine ⟨r, Ev.congr (fun k => rfl) hr, ?_, hd, hl⟩
  rw [hv]; simp [val, pv]; omega
end Go.Proofs.YtfhadnhpognefaaGreatDoor.Fx
