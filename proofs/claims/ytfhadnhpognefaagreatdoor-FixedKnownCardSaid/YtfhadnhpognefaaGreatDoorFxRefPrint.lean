/- The reference's printing comes to 'print', and what is printed is read as itself. -/
import Derived.Test.YtfhadnhpognefaaGreatDoorPRefx
import Derived.Test.YtfhadnhpognefaaGreatDoorFxLong3
import Derived.Test.YtfhadnhpognefaaGreatDoorFxRead
import Derived.Lib.SmallJoins
namespace Go.Proofs.YtfhadnhpognefaaGreatDoor.Fx
open Go Go.RowKit Go.Proofs.YtfhadnhpognefaaGreatDoorW.PrintWords Go.Proofs.YtfhadnhpognefaaGreatDoorW.PrintLast Go.Proofs.YtfhadnhpognefaaGreatDoorW.PrintMore Go.Proofs.YtfhadnhpognefaaGreatDoor.PRef

/-! ### Texts as lists -/
def tx (l : List UInt8) : ByteArray := ⟨l.toArray⟩
theorem tx_ext {a b : ByteArray} (h : a.data.toList = b.data.toList) : a = b := by
  cases a; cases b
  simp only at h
  congr 1
  exact Array.toList_inj.1 h
theorem tx_data (l : List UInt8) : (tx l).data.toList = l := rfl
theorem tx_append (a b : List UInt8) : tx a ++ tx b = tx (a ++ b) := tx_ext (by rw [Joins.data_append]; rfl)
theorem tx_size (l : List UInt8) : (tx l).size = l.length := rfl
theorem tx_list (l : List UInt8) : (tx l).toList = l := by rw [Lib.toList_data]; rfl
theorem ten_one (d : Nat) (h : d < 10) : ((⟨#[48, 49, 50, 51, 52, 53, 54, 55, 56, 57]⟩ : ByteArray).extract d (d + 1)) = tx [UInt8.ofNat (48 + d)] := by
  have H : ∀ d : Fin 10, ((⟨#[48, 49, 50, 51, 52, 53, 54, 55, 56, 57]⟩ : ByteArray).extract d.1 (d.1 + 1)) = tx [UInt8.ofNat (48 + d.1)] := by decide +kernel
  exact H ⟨d, h⟩

/-! ### digits -/
theorem digits_step (n : Nat) (hn : n < 18446744073709551616) (acc : List UInt8) (ha : acc.length ≤ 1000) (h : 0 < n ∨ acc = []) (k : Nat) :
    calamusref01_digits.l0 (k + 1) (n : Int) (tx acc) = calamusref01_digits.l0 k ((n / 10 : Nat) : Int) (tx (UInt8.ofNat (48 + n % 10) :: acc)) := by
  have e1 : Int.tmod (n : Int) 10 = ((n % 10 : Nat) : Int) := by rw [Int.tmod_eq_emod_of_nonneg (by omega)]; omega
  have e2 : Int.tdiv (n : Int) 10 = ((n / 10 : Nat) : Int) := by rw [Int.tdiv_eq_ediv_of_nonneg (by omega)]; omega
  have hd : n % 10 < 10 := by omega
  have e3 := ten_one (n % 10) hd
  have e4 : IntKind.u64.wrap (((n % 10 : Nat) : Int) + 1) = ((n % 10 + 1 : Nat) : Int) := by rw [u64in (by omega) (by omega)]; omega
  have e5 : IntKind.u64.wrap ((n / 10 : Nat) : Int) = ((n / 10 : Nat) : Int) := u64in (by omega) (by omega)
  simp only [calamusref01_digits.l0, e1, e2, e4, e5, Int.toNat_natCast, e3]
  rw [tx_append]
  have hs : (tx [UInt8.ofNat (48 + n % 10)]).size + (tx acc).size ≤ 9223372036854775807 := by rw [tx_size, tx_size, List.length_singleton]; omega
  by_cases h0 : (n : Int) > 0
  · rw [if_pos h0, if_pos (by omega), if_pos (by omega), if_pos (by omega), if_pos hs]; rfl
  · have hacc : acc = [] := h.resolve_left (by omega)
    rw [if_neg h0, if_pos (by rw [tx_list]; exact hacc), if_pos (by omega), if_pos (by omega), if_pos (by omega), if_pos hs]; rfl
theorem digits_pos (m : Nat) : ∀ n acc, n ≤ m → 0 < n → n < 18446744073709551616 → acc.length + n.log2 ≤ 900 → Ev (fun k => calamusref01_digits.l0 k (n : Int) (tx acc)) (tx (Lib.decDigits n ++ acc)) := by
  induction m with
  | zero => intro n acc h1 h2; omega
  | succ m ih =>
    intro n acc h1 h2 h3 h4
    refine Ev.step (f := fun k => calamusref01_digits.l0 k ((n / 10 : Nat) : Int) (tx (UInt8.ofNat (48 + n % 10) :: acc))) (fun k => digits_step n h3 acc (by omega) (Or.inl h2) k) ?_
    by_cases h : n < 10
    · have e0 : n / 10 = 0 := by omega
      have e1 : n % 10 = n := by omega
      rw [e0, e1, Lib.decDigits_one h]
      refine ⟨1, fun k hk => ?_⟩
      obtain ⟨k, rfl⟩ : ∃ j, k = j + 1 := ⟨k - 1, by omega⟩
      simp only [calamusref01_digits.l0]
      rw [if_neg (by omega), if_neg (by rw [tx_list]; simp)]
      rfl
    · have hl : (n / 10).log2 + 1 ≤ n.log2 := by
        have h5 : n / 10 ≤ n / 2 := by omega
        have h6 : (n / 2).log2 + 1 = n.log2 := by
          rw [Nat.log2_def n, if_pos (by omega)]
        have h7 : (n / 10).log2 ≤ (n / 2).log2 := (Nat.le_log2 (by omega)).2 (Nat.le_trans (Nat.log2_self_le (by omega)) h5)
        omega
      have := ih (n / 10) (UInt8.ofNat (48 + n % 10) :: acc) (by omega) (by omega) (by omega) (by rw [List.length_cons]; omega)
      rw [Lib.decDigits, dif_neg h, List.append_assoc]
      exact this
theorem log_small {n : Nat} (h : n < 18446744073709551616) : n.log2 ≤ 64 := by
  by_cases h0 : n = 0
  · subst h0; decide
  · have := (Nat.log2_lt (n := n) (k := 64) h0).2 (by omega)
    omega
theorem digits_ev (n : Nat) (hn : n < 18446744073709551616) : Ev (fun k => calamusref01_digits.f k (n : Int)) (tx (Lib.decDigits n)) := by
  have := log_small hn
  by_cases h : n = 0
  · subst h
    refine Ev.step (f := fun k => calamusref01_digits.l0 k 0 (tx [48])) (fun k => digits_step 0 (by decide) [] (by decide) (Or.inr rfl) k) ?_
    refine ⟨1, fun k hk => ?_⟩
    obtain ⟨k, rfl⟩ : ∃ j, k = j + 1 := ⟨k - 1, by omega⟩
    simp only [calamusref01_digits.l0]
    rw [if_neg (by omega), if_neg (by rw [tx_list]; simp), Lib.decDigits_one (by decide)]
    rfl
  · have := digits_pos n n [] (Nat.le_refl _) (by omega) hn (by simp; omega)
    rw [List.append_nil] at this
    exact this

/-! ### Print -/
theorem print_loop (g : Nat) : ∀ (r : Nat) (l : List UInt8), r < 65536 → r * 2 ^ g % 65536 = 0 → l.length + g ≤ 100 → Ev (fun k => calamusref01_Print.l0 k (tx l) (r : Int)) (tx (l ++ frac g r)) := by
  have stop : ∀ (l : List UInt8) (g : Nat), Ev (fun k => calamusref01_Print.l0 k (tx l) ((0 : Nat) : Int)) (tx (l ++ frac g 0)) := fun l g => by
    have e : frac g 0 = [] := by cases g <;> simp [frac]
    rw [e, List.append_nil]
    refine ⟨1, fun k hk => ?_⟩
    obtain ⟨k, rfl⟩ : ∃ j, k = j + 1 := ⟨k - 1, by omega⟩
    simp only [calamusref01_Print.l0]
    rw [if_neg (by omega)]
  induction g with
  | zero =>
    intro r l h1 h2 _
    obtain rfl : r = 0 := by omega
    exact stop l 0
  | succ g ih =>
    intro r l h1 h2 h3
    by_cases h0 : r = 0
    · subst h0; exact stop l (g + 1)
    · have hq : r * 10 / 65536 < 10 := by omega
      have e1 : IntKind.u64.wrap ((r : Int) * 10) = ((r * 10 : Nat) : Int) := by rw [u64in (by omega) (by omega)]; omega
      have e2 : IntKind.u64.wrap (Int.tdiv ((r * 10 : Nat) : Int) 65536) = ((r * 10 / 65536 : Nat) : Int) := by
        rw [Int.tdiv_eq_ediv_of_nonneg (by omega), u64in (by omega) (by omega)]; omega
      have e3 : Int.tmod ((r * 10 : Nat) : Int) 65536 = ((r * 10 % 65536 : Nat) : Int) := by rw [Int.tmod_eq_emod_of_nonneg (by omega)]; omega
      have hd := digits_ev (r * 10 / 65536) (by omega)
      rw [Lib.decDigits_one hq] at hd
      have h4 : (r * 10 % 65536) * 2 ^ g % 65536 = 0 := by
        rw [Nat.mod_mul_mod]
        rw [Nat.pow_succ, ← Nat.mul_assoc] at h2
        have e := Nat.mul_right_comm r 10 (2 ^ g)
        omega
      have := ih (r * 10 % 65536) (l ++ [UInt8.ofNat (48 + r * 10 / 65536)]) (by omega) h4 (by rw [List.length_append]; show _ + 1 + g ≤ 100; omega)
      refine Ev.step (f := fun k => (calamusref01_digits.f k ((r * 10 / 65536 : Nat) : Int)).bind fun t => if (tx l).size + t.size ≤ 9223372036854775807 then calamusref01_Print.l0 k (tx l ++ t) ((r * 10 % 65536 : Nat) : Int) else none) (fun k => ?_) (Ev.bind hd ?_)
      · simp only [calamusref01_Print.l0, e1, e2, e3]
        rw [if_pos (by omega)]
      · rw [frac, if_neg h0]
        refine Ev.congr (fun k => ?_) (by rw [List.append_assoc] at this; exact this)
        rw [if_pos (by rw [tx_size, tx_size, List.length_singleton]; omega), tx_append]
theorem digits_len (u : Nat) (h : u < 18446744073709551616) : (Lib.decDigits u).length ≤ 20 := by
  rw [Lib.decDigits_length]
  by_cases h1 : 1 ≤ u
  · have := Lib.numDigits_eq u h1 h; split at this <;> omega
  · obtain rfl : u = 0 := by omega
    rw [Lib.nDigits_small (by decide)]; decide
theorem Print_ev (n : Int) (h0 : -9223372036854775808 ≤ n) (h1 : n ≤ 9223372036854775807) : ∃ k, calamusref01_Print.f k n = some (tx (print n)) := by
  have hs := size_ev n h0 h1
  have hA : n.natAbs < 18446744073709551616 := by omega
  have hd := digits_ev (n.natAbs / 65536) (by omega)
  have hl := digits_len (n.natAbs / 65536) (by omega)
  have e1 : IntKind.u64.wrap (Int.tdiv (n.natAbs : Int) 65536) = ((n.natAbs / 65536 : Nat) : Int) := by
    rw [Int.tdiv_eq_ediv_of_nonneg (by omega), u64in (by omega) (by omega)]; omega
  have e2 : Int.tmod (n.natAbs : Int) 65536 = ((n.natAbs % 65536 : Nat) : Int) := by rw [Int.tmod_eq_emod_of_nonneg (by omega)]; omega
  have rest : ∀ l : List UInt8, l.length ≤ 30 → Ev (fun k => calamusref01_Print.j0 k (n.natAbs : Int) (tx l)) (tx (l ++ point (n.natAbs % 65536))) := by
    intro l hl
    unfold point
    by_cases hr : n.natAbs % 65536 = 0
    · rw [if_pos hr, List.append_nil]
      have := print_loop 0 0 l (by decide) rfl (by omega)
      rw [show frac 0 0 = [] from rfl, List.append_nil] at this
      refine Ev.step (f := fun k => calamusref01_Print.j1 k (tx l) ((0 : Nat) : Int)) (fun k => ?_) (Ev.step (fun k => ?_) this)
      · simp only [calamusref01_Print.j0, e2, hr]
        rw [if_neg (by omega)]
      · simp only [calamusref01_Print.j1]
    · rw [if_neg hr]
      have := print_loop 16 (n.natAbs % 65536) (l ++ [46]) (by omega) (by omega) (by rw [List.length_append]; show _ + 1 + 16 ≤ 100; omega)
      rw [List.append_assoc] at this
      refine Ev.step (f := fun k => calamusref01_Print.j1 k (tx (l ++ [46])) ((n.natAbs % 65536 : Nat) : Int)) (fun k => ?_) (Ev.step (fun k => ?_) this)
      · simp only [calamusref01_Print.j0, e2]
        rw [if_pos (by omega), if_pos (by rw [tx_size]; omega)]
        rw [← tx_append]; rfl
      · simp only [calamusref01_Print.j1]
  have hg : print n = sign n ++ Lib.decDigits (n.natAbs / 65536) ++ point (n.natAbs % 65536) := rfl
  rw [hg]
  refine (Ev.congr (f := fun k => (calamusref01_digits.f k ((n.natAbs / 65536 : Nat) : Int)).bind fun t => if n < 0 then (if 1 + t.size ≤ 9223372036854775807 then calamusref01_Print.j0 k (n.natAbs : Int) ((⟨#[45]⟩ : ByteArray) ++ t) else none) else calamusref01_Print.j0 k (n.natAbs : Int) t) (fun k => ?_) (Ev.bind hd ?_)).rounds
  · simp only [calamusref01_Print.f, hs, Option.bind_some, e1]
  · by_cases hn : n < 0
    · rw [show sign n = [45] by unfold sign; rw [if_pos hn]]
      refine Ev.congr (fun k => ?_) (rest ([45] ++ Lib.decDigits (n.natAbs / 65536)) (by rw [List.length_append]; show 1 + _ ≤ 30; omega))
      rw [if_pos hn, if_pos (by rw [tx_size]; omega), ← tx_append]; rfl
    · rw [show sign n = [] by unfold sign; rw [if_neg hn]]
      refine Ev.congr (fun k => ?_) (rest ([] ++ Lib.decDigits (n.natAbs / 65536)) (by rw [List.nil_append]; omega))
      rw [if_neg hn, List.nil_append]
  
/-! ### What is printed is read as itself -/
theorem ofNat_dig {d : Nat} (h : d < 10) : isDig (UInt8.ofNat (48 + d)) = true ∧ (UInt8.ofNat (48 + d)).toNat - 48 = d := by
  unfold isDig
  rw [UInt8.toNat_ofNat']
  have : (48 + d) % 2 ^ 8 = 48 + d := by omega
  rw [this]
  simp
  omega
theorem dec_dig (m : Nat) : ∀ n, n ≤ m → (Lib.decDigits n).all isDig = true ∧ val10 (Lib.decDigits n) = n ∧ Lib.decDigits n ≠ [] := by
  induction m with
  | zero =>
    intro n h
    obtain rfl : n = 0 := by omega
    rw [Lib.decDigits_one (by decide)]
    exact ⟨by decide, by decide, by simp⟩
  | succ m ih =>
    intro n h
    by_cases h10 : n < 10
    · rw [Lib.decDigits_one h10]
      obtain ⟨a, b⟩ := ofNat_dig h10
      refine ⟨by rw [List.all_cons, a]; rfl, ?_, by simp⟩
      rw [val10_cons, b, List.length_nil, Nat.pow_zero, Nat.mul_one]; rfl
    · rw [Lib.decDigits, dif_neg h10]
      obtain ⟨a, b, c⟩ := ih (n / 10) (by omega)
      obtain ⟨d, e⟩ := ofNat_dig (d := n % 10) (by omega)
      refine ⟨by rw [List.all_append, a, Bool.true_and, List.all_cons, d]; rfl, ?_, by simp⟩
      rw [val10_append, b, val10_cons, e, List.length_singleton, List.length_nil, Nat.pow_zero, Nat.mul_one, Nat.pow_one]
      show n / 10 * 10 + (n % 10 + 0) = n
      omega
/-- The part's digits: their value over a power of ten is the rest over 65536. -/
theorem frac_val (g : Nat) : ∀ r, r < 65536 → r * 2 ^ g % 65536 = 0 → (frac g r).all isDig = true ∧ val10 (frac g r) * 65536 = r * 10 ^ (frac g r).length ∧ (frac g r).length ≤ g := by
  induction g with
  | zero =>
    intro r h1 h2
    obtain rfl : r = 0 := by omega
    simp [frac, val10]
  | succ g ih =>
    intro r h1 h2
    by_cases h0 : r = 0
    · subst h0; simp [frac, val10]
    · rw [frac, if_neg h0]
      have h4 : (r * 10 % 65536) * 2 ^ g % 65536 = 0 := by
        rw [Nat.mod_mul_mod]
        rw [Nat.pow_succ, ← Nat.mul_assoc] at h2
        have e := Nat.mul_right_comm r 10 (2 ^ g)
        omega
      obtain ⟨a, b, c⟩ := ih (r * 10 % 65536) (by omega) h4
      obtain ⟨d, e⟩ := ofNat_dig (d := r * 10 / 65536) (by omega)
      refine ⟨by rw [List.all_cons, d, a]; rfl, ?_, by rw [List.length_cons]; omega⟩
      rw [val10_cons, e, List.length_cons, Nat.add_mul, b, Nat.pow_succ, Nat.mul_comm (10 ^ _) 10, ← Nat.mul_assoc]
      have h5 : r * 10 = r * 10 / 65536 * 65536 + r * 10 % 65536 := by omega
      generalize 10 ^ (frac g (r * 10 % 65536)).length = T at *
      rw [show r * 10 / 65536 * T * 65536 = r * 10 / 65536 * 65536 * T by rw [Nat.mul_right_comm], ← Nat.add_mul, ← h5]
theorem cut_digits (c : UInt8) (hc : isDig c = false) (t : List UInt8) : ∀ l : List UInt8, l.all isDig = true → cutAt c (l ++ c :: t) = (l, some t) ∧ cutAt c l = (l, none)
  | [], _ => by simp [cutAt]
  | x :: l, h => by
    rw [List.all_cons, Bool.and_eq_true] at h
    obtain ⟨a, b⟩ := cut_digits c hc t l h.2
    have hx : x ≠ c := fun e => by rw [e, hc] at h; exact absurd h.1 (by simp)
    simp [cutAt, hx, a, b]
theorem read_print (n : Int) (h0 : -9223372036854775808 ≤ n) (h1 : n ≤ 9223372036854775807) : read (print n) = (n, 0) := by
  obtain ⟨wd, wv, wn⟩ := dec_dig _ (n.natAbs / 65536) (Nat.le_refl _)
  have wl := digits_len (n.natAbs / 65536) (by omega)
  have hg : print n = sign n ++ (Lib.decDigits (n.natAbs / 65536) ++ point (n.natAbs % 65536)) := by unfold print; rw [List.append_assoc]
  generalize hW : Lib.decDigits (n.natAbs / 65536) = D at *
  have hhead : ∀ t : List UInt8, negOf (D ++ t) = false := fun t => by
    cases D with
    | nil => exact absurd rfl wn
    | cons x l =>
      rw [List.all_cons, Bool.and_eq_true] at wd
      unfold negOf
      rw [List.cons_append, List.head?_cons]
      have hx : x ≠ 45 := fun e => by rw [e] at wd; exact absurd wd.1 (by decide)
      simp [hx]
  have hneg : negOf (print n) = decide (n < 0) := by
    rw [hg]; unfold sign
    by_cases hn : n < 0
    · rw [if_pos hn]; simp [negOf, hn]
    · rw [if_neg hn, List.nil_append, hhead]; simp [hn]
  have hrest : restOf (print n) = D ++ point (n.natAbs % 65536) := by
    unfold restOf
    rw [hneg, hg]; unfold sign
    by_cases hn : n < 0
    · simp [hn]
    · simp [hn]
  have hf := frac_val 16 (n.natAbs % 65536) (by omega) (by omega)
  obtain ⟨pd, pval, pl⟩ := hf
  have hlen : (print n).length ≤ 40 := by
    rw [hg]
    unfold sign point
    simp only [List.length_append]
    split <;> split <;> simp <;> omega
  have hpow : 0 < 10 ^ (frac 16 (n.natAbs % 65536)).length := Nat.pow_pos (by decide)
  have hval : wholeOf (print n) = D ∧ (pointOf (print n) = false ∧ partOf (print n) = [] ∧ n.natAbs % 65536 = 0 ∨ pointOf (print n) = true ∧ partOf (print n) = frac 16 (n.natAbs % 65536) ∧ n.natAbs % 65536 ≠ 0) := by
    unfold wholeOf partOf pointOf
    rw [hrest]
    unfold point
    by_cases hr : n.natAbs % 65536 = 0
    · rw [if_pos hr, List.append_nil, (cut_digits 46 (by decide) [] D wd).2]
      exact ⟨rfl, Or.inl ⟨rfl, rfl, hr⟩⟩
    · rw [if_neg hr, (cut_digits 46 (by decide) _ D wd).1]
      exact ⟨rfl, Or.inr ⟨rfl, rfl, hr⟩⟩
  have hmag : magR (wholeOf (print n)) (partOf (print n)) = n.natAbs := by
    rcases hval with ⟨e1, ⟨_, e2, e3⟩ | ⟨_, e2, _⟩⟩
    · rw [e1, e2]
      unfold magR
      rw [List.append_nil, wv, List.length_nil, Nat.pow_zero, Nat.div_one, Nat.mod_one, if_neg (by decide)]
      clear hpow pval pd pl wd wv hneg hrest
      omega
    · rw [e1, e2]
      unfold magR
      rw [val10_append, wv, Nat.add_mul, pval, show n.natAbs / 65536 * 10 ^ (frac 16 (n.natAbs % 65536)).length * 65536 = n.natAbs / 65536 * 65536 * 10 ^ (frac 16 (n.natAbs % 65536)).length by rw [Nat.mul_right_comm], ← Nat.add_mul, Nat.mul_div_cancel _ hpow, Nat.mul_mod_left, if_neg (by omega)]
      clear hpow pval pd pl wd wv hneg hrest
      omega
  have hgood : goodText (print n) = true := by
    unfold goodText allDig
    rcases hval with ⟨e1, ⟨e0, e2, _⟩ | ⟨e0, e2, e3⟩⟩
    · rw [e1, e0, wd]
      simp [hlen, wn]
    · rw [e1, e0, e2, wd, pd]
      have hne : frac 16 (n.natAbs % 65536) ≠ [] := by rw [frac, if_neg e3]; simp
      simp [hlen, wn, hne]
  unfold read
  rw [if_pos hgood, hmag, hneg]
  unfold withSign
  by_cases hn : n < 0
  · rw [show decide (n < 0) = true by simpa using hn, if_pos rfl, show -(n.natAbs : Int) = n by omega, flow_in h0 h1]
  · rw [show decide (n < 0) = false by simpa using hn, if_neg (by simp), show (n.natAbs : Int) = n by omega, flow_in h0 h1]
end Go.Proofs.YtfhadnhpognefaaGreatDoor.Fx
