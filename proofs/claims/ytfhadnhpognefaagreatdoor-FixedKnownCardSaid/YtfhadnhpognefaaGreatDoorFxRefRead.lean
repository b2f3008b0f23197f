/- The reference's reading comes to 'read'. -/
import Derived.Test.YtfhadnhpognefaaGreatDoorPRefx
import Derived.Test.YtfhadnhpognefaaGreatDoorFxRefPrint
namespace Go.Proofs.YtfhadnhpognefaaGreatDoor.Fx
open Go Go.RowKit Go.Proofs.YtfhadnhpognefaaGreatDoorW.PrintWords Go.Proofs.YtfhadnhpognefaaGreatDoorW.PrintLast Go.Proofs.YtfhadnhpognefaaGreatDoorW.PrintMore Go.Proofs.YtfhadnhpognefaaGreatDoor.PRef

/-! ### Right: one pass over the text without its sign -/
/-- What a pass has come to: the digits so far, and how many are behind the point (none: no point yet). -/
def pass : List UInt8 → List Int → Option Nat → Option (List Int × Option Nat)
  | [], ds, b => some (ds, b)
  | c :: t, ds, b =>
    if isDig c = true then pass t (ds ++ [((c.toNat - 48 : Nat) : Int)]) (b.map (· + 1))
    else if c = 46 ∧ b = none ∧ ds ≠ [] then pass t ds (some 0) else none
def behind : Option Nat → Int
  | none => -1
  | some n => n
theorem bt_text (l : List UInt8) (j : Nat) (hj : j < l.length) : bt (tx l) (j : Int) = ((l[j]'hj).toNat : Int) := by
  have : (j : Int).toNat < (tx l).size := by rw [tx_size]; omega
  unfold bt
  rw [dif_pos this]
  rfl
theorem Right_loop (neg : Bool) (l : List UInt8) (hl : l.length ≤ 40) (m : Nat) : ∀ (j : Nat) (ds : List Int) (b : Option Nat), j + m = l.length → ds.length ≤ j → (∀ n, b = some n → n ≤ j) →
    Ev (fun k => calamusref01_Right.l0 k (tx l) neg ds (behind b) (j : Int)) (match pass (l.drop j) ds b with
      | some (ds', b') => if 0 < (ds'.length : Int) then (neg, ds', mx (behind b') 0, (behind b' != 0)) else (neg, ds', mx (behind b') 0, false)
      | none => (false, [], 0, false)) := by
  induction m with
  | zero =>
    intro j ds b hj hd hb
    have e : l.drop j = [] := by rw [List.drop_eq_nil_iff]; omega
    rw [e]
    refine ⟨1, fun k hk => ?_⟩
    obtain ⟨k, rfl⟩ : ∃ i, k = i + 1 := ⟨k - 1, by omega⟩
    simp only [calamusref01_Right.l0, pass]
    rw [if_neg (by rw [tx_size]; omega)]
    by_cases h0 : (ds.length : Int) > 0
    · rw [if_pos h0, if_pos h0]
    · rw [if_neg h0, if_neg h0]
  | succ m ih =>
    intro j ds b hj hd hb
    have hlt : j < l.length := by omega
    have hbt := bt_text l j hlt
    have e : l.drop j = l[j] :: l.drop (j + 1) := List.drop_eq_getElem_cons hlt
    have hw : wrap64 ((j : Int) + 1) = ((j + 1 : Nat) : Int) := by rw [w64 (by omega) (by omega)]; omega
    generalize hc : l[j]'hlt = c at *
    rw [e]
    unfold pass
    have hdig : isDig c = (decide (bt (tx l) (j : Int) ≥ 48) && decide (bt (tx l) (j : Int) ≤ 57)) := by
      rw [hbt]; unfold isDig
      congr 1 <;> rw [decide_eq_decide] <;> omega
    have first : ∀ k, calamusref01_Right.l0 (k + 1) (tx l) neg ds (behind b) (j : Int) = calamusref01_Right.j3 k (tx l) neg ds (behind b) (j : Int) (isDig c) := fun k => by
      simp only [calamusref01_Right.l0]
      rw [if_pos (by rw [tx_size]; omega), if_pos (by omega), hdig]
      by_cases h : bt (tx l) (j : Int) ≥ 48
      · rw [if_pos h, show decide (bt (tx l) (j : Int) ≥ 48) = true by simpa using h, Bool.true_and]
      · rw [if_neg h, show decide (bt (tx l) (j : Int) ≥ 48) = false by simpa using h, Bool.false_and]
    refine Ev.step first ?_
    by_cases hd1 : isDig c = true
    · rw [if_pos hd1, hd1]
      have hcr : 48 ≤ c.toNat ∧ c.toNat ≤ 57 := by unfold isDig at hd1; simpa using hd1
      have hv : (bt (tx l) (j : Int) - 48) % 256 = ((c.toNat - 48 : Nat) : Int) := by rw [hbt]; omega
      have hbb : (if behind b ≥ 0 then wrap64 (behind b + 1) else behind b) = behind (b.map (· + 1)) := by
        cases b with
        | none => rfl
        | some n =>
          have := hb n rfl
          show (if (n : Int) ≥ 0 then wrap64 ((n : Int) + 1) else (n : Int)) = ((n + 1 : Nat) : Int)
          rw [if_pos (by omega), w64 (by omega) (by omega)]; omega
      have := ih (j + 1) (ds ++ [((c.toNat - 48 : Nat) : Int)]) (b.map (· + 1)) (by omega) (by rw [List.length_append]; show _ + 1 ≤ _; omega) (fun n hn => by
        cases b with
        | none => simp at hn
        | some n' => simp at hn; have := hb n' rfl; omega)
      refine Ev.step (fun k => ?_) this
      simp only [calamusref01_Right.j3]
      rw [if_pos trivial, if_pos (by omega), if_pos (by rw [tx_size]; omega), if_pos (by omega), Option.bind_some, hv, hw, ← hbb]
      split <;> rfl
    · rw [if_neg hd1, show isDig c = false by simpa using hd1]
      by_cases h46 : c = 46 ∧ b = none ∧ ds ≠ []
      · rw [if_pos h46]
        obtain ⟨h1, h2, h3⟩ := h46
        have hds : (ds.length : Int) > 0 := by
          cases ds with
          | nil => exact absurd rfl h3
          | cons _ _ => simp
        have := ih (j + 1) ds (some 0) (by omega) (by omega) (fun n hn => by injection hn with hn; omega)
        refine Ev.step (fun k => ?_) this
        simp only [calamusref01_Right.j3]
        rw [if_neg (by simp), if_pos (by omega), if_pos (by rw [tx_size]; omega), if_pos (by rw [hbt, h1]; rfl), if_pos (by rw [h2]; decide), if_pos hds, hw]
        rfl
      · rw [if_neg h46]
        refine ⟨1, fun k hk => ?_⟩
        obtain ⟨k, rfl⟩ : ∃ i, k = i + 1 := ⟨k - 1, by omega⟩
        simp only [calamusref01_Right.j3]
        rw [if_neg (by simp), if_pos (by omega), if_pos (by rw [tx_size]; omega)]
        by_cases e46 : bt (tx l) (j : Int) = 46
        · have hc46 : c = 46 := by
            rw [hbt] at e46
            apply UInt8.toNat_inj.1
            show c.toNat = 46
            omega
          rw [if_pos e46]
          by_cases hn : behind b < 0
          · rw [if_pos hn]
            have hbn : b = none := by
              cases b with
              | none => rfl
              | some n => exact absurd hn (by show ¬ (n : Int) < 0; omega)
            have hds : ds = [] := Classical.byContradiction fun h => h46 ⟨hc46, hbn, h⟩
            rw [if_neg (by rw [hds]; simp)]
          · rw [if_neg hn]
        · rw [if_neg e46]
def dv (l : List UInt8) : List Int := l.map fun c => ((c.toNat - 48 : Nat) : Int)
theorem pass_some : ∀ (l : List UInt8) (ds : List Int) (n : Nat), pass l ds (some n) = if l.all isDig = true then some (ds ++ dv l, some (n + l.length)) else none
  | [], ds, n => by simp [pass, dv]
  | c :: t, ds, n => by
    unfold pass
    by_cases h : isDig c = true
    · rw [if_pos h, Option.map_some, pass_some t _ _, List.all_cons, h, Bool.true_and]
      by_cases ht : t.all isDig = true
      · rw [if_pos ht, if_pos ht]
        simp [dv]
        omega
      · rw [if_neg ht, if_neg ht]
    · rw [if_neg h, if_neg (by simp), if_neg (by rw [List.all_cons]; simp [h])]
theorem pass_none : ∀ (l : List UInt8) (ds : List Int), pass l ds none =
    if (cutAt 46 l).1.all isDig = true then (match (cutAt 46 l).2 with
      | none => some (ds ++ dv (cutAt 46 l).1, none)
      | some p => if ds ++ dv (cutAt 46 l).1 ≠ [] ∧ p.all isDig = true then some (ds ++ dv (cutAt 46 l).1 ++ dv p, some p.length) else none) else none
  | [], ds => by simp [pass, cutAt, dv]
  | c :: t, ds => by
    unfold pass
    by_cases hc : c = 46
    · subst hc
      have h46 : ¬ isDig 46 = true := by decide
      have e : cutAt 46 (46 :: t) = ([], some t) := by simp [cutAt]
      rw [e, if_neg h46]
      simp only [List.all_nil, if_true, dv, List.map_nil, List.append_nil]
      by_cases hd : ds = []
      · rw [if_neg (by simp [hd]), if_neg (by simp [hd])]
      · rw [if_pos ⟨trivial, trivial, hd⟩, pass_some]
        by_cases ht : t.all isDig = true
        · rw [if_pos ht, if_pos ⟨hd, ht⟩, Nat.zero_add]; rfl
        · rw [if_neg ht, if_neg (fun h => ht h.2)]
    · have e1 : (cutAt 46 (c :: t)).1 = c :: (cutAt 46 t).1 := by simp [cutAt, hc]
      have e2 : (cutAt 46 (c :: t)).2 = (cutAt 46 t).2 := by simp [cutAt, hc]
      rw [e1, e2]
      by_cases h : isDig c = true
      · rw [if_pos h, Option.map_none, pass_none t _, List.all_cons, h, Bool.true_and]
        have ed : ds ++ [((c.toNat - 48 : Nat) : Int)] ++ dv (cutAt 46 t).1 = ds ++ dv (c :: (cutAt 46 t).1) := by simp [dv]
        rw [ed]
      · rw [if_neg h, if_neg (by simp [hc]), if_neg (by rw [List.all_cons]; simp [h])]
/-! ### Read: digit by digit -/
/-- What digits come to. -/
def valD : List Int → Int → Int
  | [], n => n
  | d :: t, n => valD t (n * 10 + d)
theorem val_one (c : Int) : val [c] = c := by simp [val, pv, D]
theorem val_two : val [0, 1] = 65536 := by decide
theorem Dig_one {c : Int} (h0 : 0 ≤ c) (h1 : c < 65536) : Dig [c] := by
  have := Dig_snoc Dig_nil h0 h1
  simpa using this
theorem Dig_two : Dig [0, 1] := by
  have := Dig_snoc (Dig_one (c := 0) (by decide) (by decide)) (x := 1) (by decide) (by decide)
  simpa using this
theorem read_tail (neg : Bool) (x8 x9 ds : List Int) (b i : Int) (h8 : Dig x8) (h9 : Dig x9) (l8 : x8.length ≤ 500) (l9 : x9.length ≤ 500) (h0 : 0 < val x9) (hi : ¬ i < (ds.length : Int)) :
    Ev (fun k => calamusref01_Read.l0 k neg ds b x8 x9 i) (fin neg (val x8 * 65536 / val x9 + if val x9 ≤ 2 * (val x8 * 65536 % val x9) then 1 else 0)) := by
  obtain ⟨p, hp, vp, dp, lp⟩ := times_val h8 Dig_two (by simp; omega)
  rw [val_two] at vp
  have lp2 : p.length ≤ 502 := by simp at lp; omega
  obtain ⟨q, r, hq, vq, vr, dq, dr, lq, lr⟩ := divide_val dp h9 (by omega) (by omega) h0
  obtain ⟨r2, hr2, vr2, dr2, lr2⟩ := double_val dr (by omega) 0 (by omega) (by omega)
  have hl := less_val dr2 h9 (by omega) (by omega)
  obtain ⟨q1, hq1, vq1, dq1, lq1⟩ := plusOne_val dq (by omega)
  rw [vp] at vq vr
  refine Ev.step (f := fun k => (calamusref01_times.f k x8 [0, 1]).bind fun t => (calamusref01_divide.f k t x9).bind fun qr => (calamusref01_double.f k qr.2 0).bind fun u => (calamusref01_less.f k u x9).bind fun v =>
    if v = true then (calamusref01_number.f k qr.1 neg).bind fun bt => some (bt.1, bt.2) else (calamusref01_plusOne.f k qr.1).bind fun z => (calamusref01_number.f k z neg).bind fun bt => some (bt.1, bt.2)) (fun k => ?_) (Ev.bind hp (Ev.bind hq (Ev.bind hr2 (Ev.bind hl ?_))))
  · simp only [calamusref01_Read.l0]
    rw [if_neg hi]
  · rw [← vq, ← vr]
    by_cases h : val x9 ≤ 2 * val r
    · rw [if_pos h]
      have e : decide (val r2 < val x9) = false := by rw [decide_eq_false_iff_not, vr2]; omega
      rw [e]
      have hn := number_val dq1 neg (by omega)
      rw [vq1] at hn
      exact Ev.congr (fun k => by rw [if_neg (by simp)]) (Ev.bind hq1 (Ev.bind hn (Ev.now _)))
    · rw [if_neg h, Int.add_zero]
      have e : decide (val r2 < val x9) = true := by rw [decide_eq_true_iff, vr2]; omega
      rw [e]
      have hn := number_val dq neg (by omega)
      exact Ev.congr (fun k => by rw [if_pos rfl]) (Ev.bind hn (Ev.now _))
theorem wrap_succ {i n : Nat} (h : i < n) (hn : n ≤ 60) : wrap64 ((i : Int) + 1) = ((i + 1 : Nat) : Int) := by rw [w64 (by omega) (by omega)]; omega
theorem wrap_sub {b n : Nat} (h : b ≤ n) (hn : n ≤ 60) : wrap64 ((n : Int) - b) = ((n - b : Nat) : Int) := by rw [w64 (by omega) (by omega)]; omega
theorem mod_small {c : Int} (h0 : 0 ≤ c) (h1 : c ≤ 9) : c % 4294967296 = c := by omega
theorem len8 {x t u i : Nat} (h : x ≤ 3 + 2 * i) (ht : t ≤ x + 1) (hu : u ≤ t + 1) : u ≤ 3 + 2 * (i + 1) := by omega
theorem len9 {x s i : Nat} (h : x ≤ 3 + i) (hs : s ≤ x + 1) : s ≤ 3 + (i + 1) := by omega
theorem len10 {x i : Nat} (h : x ≤ 3 + i) : x ≤ 3 + (i + 1) := by omega
theorem sub_s {i d : Nat} (h : d ≤ i) : i + 1 - d = (i - d) + 1 := by omega
theorem sub_0 {i d : Nat} (h : ¬ d ≤ i) : i + 1 - d = 0 ∧ i - d = 0 ∧ ¬ (i : Int) ≥ (d : Int) := by omega
theorem add_s {i m n : Nat} (h : i + (m + 1) = n) : i + 1 + m = n := by omega
theorem ge_nat {i n : Nat} (h : n ≤ i) : (i : Int) ≥ (n : Int) := by omega
set_option maxHeartbeats 2000000 in
theorem read_loop (neg : Bool) (ds : List Int) (b : Nat) (hds : ∀ j, j < ds.length → 0 ≤ ds.getD j 0 ∧ ds.getD j 0 ≤ 9) (hlen : ds.length ≤ 60) (hb : b ≤ ds.length) (m : Nat) : ∀ (i : Nat) (x8 x9 : List Int), i + m = ds.length → Dig x8 → Dig x9 → x8.length ≤ 3 + 2 * i → x9.length ≤ 3 + i → val x9 = 10 ^ (i - (ds.length - b)) →
    Ev (fun k => calamusref01_Read.l0 k neg ds (b : Int) x8 x9 (i : Int)) (fin neg (valD (ds.drop i) (val x8) * 65536 / 10 ^ b + if (10 : Int) ^ b ≤ 2 * (valD (ds.drop i) (val x8) * 65536 % 10 ^ b) then 1 else 0)) := by
  induction m with
  | zero =>
    intro i x8 x9 hi h8 h9 l8 l9 hv
    have e : ds.drop i = [] := by rw [List.drop_eq_nil_iff]; omega
    rw [e]
    have ev : val x9 = 10 ^ b := by rw [hv]; congr 1; omega
    have := read_tail neg x8 x9 ds b i h8 h9 (by omega) (by omega) (by rw [ev]; exact Int.pow_pos (by decide)) (by omega)
    rw [ev] at this
    exact this
  | succ m ih =>
    intro i x8 x9 hi h8 h9 l8 l9 hv
    have hlt : i < ds.length := by omega
    have e : ds.drop i = ds.getD i 0 :: ds.drop (i + 1) := by
      rw [List.drop_eq_getElem_cons hlt, List.getD_eq_getElem?_getD, List.getElem?_eq_getElem hlt]; rfl
    obtain ⟨d0, d1⟩ := hds i hlt
    have hrd : rd ds (i : Int) = ds.getD i 0 := by simp [rd]
    rw [e]
    generalize ds.getD i 0 = c at *
    obtain ⟨t, ht, vt, dt, lt⟩ := times_val h8 (Dig_one (c := 10) (by decide) (by decide)) (by simp; omega)
    rw [val_one] at vt
    have lt2 : t.length ≤ x8.length + 1 := by simpa using lt
    obtain ⟨u, hu, vu, du, lu⟩ := plus_val dt (by omega) c d0 (by omega)
    obtain ⟨s, hs, vs, ds9, ls⟩ := times_val h9 (Dig_one (c := 10) (by decide) (by decide)) (by simp; omega)
    rw [val_one] at vs
    have ls2 : s.length ≤ x9.length + 1 := by simpa using ls
    have hw : wrap64 ((i : Int) + 1) = ((i + 1 : Nat) : Int) := wrap_succ hlt hlen
    have hw2 : wrap64 ((ds.length : Int) - b) = ((ds.length - b : Nat) : Int) := wrap_sub hb hlen
    have hm : c % 4294967296 = c := mod_small d0 d1
    have hil : (i : Int) < (ds.length : Int) := Int.ofNat_lt.2 hlt
    have hi0 : 0 ≤ (i : Int) := Int.natCast_nonneg i
    show Ev _ (fin neg (valD (ds.drop (i + 1)) (val x8 * 10 + c) * 65536 / 10 ^ b + if (10 : Int) ^ b ≤ 2 * (valD (ds.drop (i + 1)) (val x8 * 10 + c) * 65536 % 10 ^ b) then 1 else 0))
    rw [← vt, ← vu]
    refine Ev.step (f := fun k => (calamusref01_times.f k x8 [10]).bind fun a => (calamusref01_plus.f k a c).bind fun y => if (i : Int) ≥ ((ds.length - b : Nat) : Int) then (calamusref01_times.f k x9 [10]).bind fun z => calamusref01_Read.l0 k neg ds b y z ((i + 1 : Nat) : Int) else calamusref01_Read.l0 k neg ds b y x9 ((i + 1 : Nat) : Int)) (fun k => ?_) (Ev.bind ht (Ev.bind hu ?_))
    · simp only [calamusref01_Read.l0, hrd, hm, hw, hw2]
      rw [if_pos hil]
      simp only [if_pos hi0]
    · have hi1 : i + 1 + m = ds.length := add_s hi
      have la : u.length ≤ 3 + 2 * (i + 1) := len8 l8 lt2 lu
      have lb : s.length ≤ 3 + (i + 1) := len9 l9 ls2
      have lc : x9.length ≤ 3 + (i + 1) := len10 l9
      by_cases hge : ds.length - b ≤ i
      · have hv2 : val s = 10 ^ (i + 1 - (ds.length - b)) := by
          rw [vs, hv, sub_s hge, Int.pow_succ]
        refine Ev.congr (fun k => by rw [if_pos (ge_nat hge)]) (Ev.bind hs (ih (i + 1) u s hi1 du ds9 la lb hv2))
      · have hv2 : val x9 = 10 ^ (i + 1 - (ds.length - b)) := by
          rw [hv, (sub_0 hge).1, (sub_0 hge).2.1]
        exact Ev.congr (fun k => by rw [if_neg (sub_0 hge).2.2]) (ih (i + 1) u x9 hi1 du h9 la lc hv2)
theorem dv_length (l : List UInt8) : (dv l).length = l.length := by unfold dv; rw [List.length_map]
theorem valD_dv : ∀ (l : List UInt8) (n : Int), valD (dv l) n = n * 10 ^ l.length + (val10 l : Int)
  | [], n => by simp [valD, dv, val10]
  | x :: t, n => by
    have e : dv (x :: t) = ((x.toNat - 48 : Nat) : Int) :: dv t := rfl
    rw [e]
    show valD (dv t) (n * 10 + ((x.toNat - 48 : Nat) : Int)) = _
    rw [valD_dv t, val10_cons, List.length_cons, Int.natCast_add, Int.natCast_mul, Int.natCast_pow, Int.pow_succ, Int.add_mul, Int.mul_assoc n 10, Int.mul_comm 10]
    generalize n * (10 ^ t.length * 10) = A
    show A + ((x.toNat - 48 : Nat) : Int) * 10 ^ t.length + _ = A + (((x.toNat - 48 : Nat) : Int) * 10 ^ t.length + _)
    omega
theorem dv_append (a b : List UInt8) : dv a ++ dv b = dv (a ++ b) := by unfold dv; rw [List.map_append]
theorem dv_digit (l : List UInt8) (h : l.all isDig = true) (j : Nat) (hj : j < (dv l).length) : 0 ≤ (dv l).getD j 0 ∧ (dv l).getD j 0 ≤ 9 := by
  have hl : j < l.length := by rw [dv_length] at hj; exact hj
  have h1 := List.all_eq_true.1 h _ (List.getElem_mem hl)
  unfold isDig at h1
  simp at h1
  have e : (dv l).getD j 0 = (((l[j]'hl).toNat - 48 : Nat) : Int) := by
    rw [List.getD_eq_getElem?_getD, List.getElem?_eq_getElem hj]
    simp [dv]
  rw [e]
  omega
/-- What Right tells. -/
def rightOf (s : List UInt8) : Bool × List Int × Int × Bool :=
  if s.length ≤ 40 then
    (if (wholeOf s).all isDig = true then (match (cutAt 46 (restOf s)).2 with
      | none => (negOf s, dv (wholeOf s), 0, !(wholeOf s).isEmpty)
      | some p => if wholeOf s ≠ [] ∧ p.all isDig = true then (negOf s, dv (wholeOf s) ++ dv p, (p.length : Int), !p.isEmpty) else (false, [], 0, false)) else (false, [], 0, false))
  else (false, [], 0, false)
theorem Right_tail (neg : Bool) (l : List UInt8) (hl : l.length ≤ 40) : Ev (fun k => calamusref01_Right.l0 k (tx l) neg [] (-1) 0) (if (cutAt 46 l).1.all isDig = true then (match (cutAt 46 l).2 with
      | none => (neg, dv (cutAt 46 l).1, 0, !(cutAt 46 l).1.isEmpty)
      | some p => if (cutAt 46 l).1 ≠ [] ∧ p.all isDig = true then (neg, dv (cutAt 46 l).1 ++ dv p, (p.length : Int), !p.isEmpty) else (false, [], 0, false)) else (false, [], 0, false)) := by
  have := Right_loop neg l hl l.length 0 [] none (by omega) (by simp) (fun n h => by cases h)
  rw [List.drop_zero, pass_none] at this
  have e : behind none = -1 := rfl
  rw [e] at this
  refine Eq.mp ?_ this
  congr 1
  clear this e
  have dne : ∀ w : List UInt8, dv w = [] ↔ w = [] := fun w => by unfold dv; simp
  generalize cutAt 46 l = c
  obtain ⟨w, p⟩ := c
  simp only [List.nil_append]
  by_cases hw : w.all isDig = true
  · rw [if_pos hw, if_pos hw]
    cases p with
    | none =>
      show (if 0 < ((dv w).length : Int) then (neg, dv w, mx (-1) 0, ((-1 : Int) != 0)) else (neg, dv w, mx (-1) 0, false)) = _
      rw [show mx (-1) 0 = 0 by decide, dv_length]
      cases w with
      | nil => rfl
      | cons x t => rw [if_pos (by simp)]; rfl
    | some p =>
      simp only
      by_cases hp : w ≠ [] ∧ p.all isDig = true
      · rw [if_pos ⟨fun h => hp.1 ((dne w).1 h), hp.2⟩, if_pos hp]
        show (if 0 < ((dv w ++ dv p).length : Int) then (neg, dv w ++ dv p, mx (p.length : Int) 0, ((p.length : Int) != 0)) else (neg, dv w ++ dv p, mx (p.length : Int) 0, false)) = _
        have hl : 0 < ((dv w ++ dv p).length : Int) := by
          rw [List.length_append, dv_length]
          have : 0 < w.length := List.length_pos_iff.2 hp.1
          omega
        rw [if_pos hl, show mx (p.length : Int) 0 = (p.length : Int) by unfold mx; split <;> omega]
        cases p with
        | nil => rfl
        | cons x t => rw [show (((x :: t).length : Int) != 0) = true by simp; omega]; rfl
      · rw [if_neg (fun h => hp ⟨fun e => h.1 ((dne w).2 e), h.2⟩), if_neg hp]
  · rw [if_neg hw, if_neg hw]
theorem Right_ev (s : List UInt8) : Ev (fun k => calamusref01_Right.f k (tx s)) (rightOf s) := by
  unfold rightOf
  by_cases hs : s.length ≤ 40
  · rw [if_pos hs]
    unfold wholeOf
    cases s with
    | nil =>
      have := Right_tail false [] (by simp)
      refine Ev.congr (g := fun k => calamusref01_Right.f k (tx [])) (f := fun k => calamusref01_Right.j0 k (tx []) false) (fun k => ?_) (Ev.step (f := fun k => calamusref01_Right.j1 k (tx []) false) (fun k => ?_) (Ev.step (fun k => ?_) this))
      · simp only [calamusref01_Right.f]
        rw [if_neg (by rw [tx_size]; simp), if_pos (by rw [tx_list])]
      · simp only [calamusref01_Right.j0]
        rw [if_neg (by simp)]
      · simp only [calamusref01_Right.j1]
    | cons x t =>
      have hb : bt (tx (x :: t)) 0 = (x.toNat : Int) := bt_text (x :: t) 0 (by simp)
      have hn : (bt (tx (x :: t)) 0 == 45) = negOf (x :: t) := by
        rw [hb]
        unfold negOf
        rw [List.head?_cons, Bool.eq_iff_iff]
        simp only [beq_iff_eq, Option.some.injEq]
        rw [← UInt8.toNat_inj]
        show _ ↔ x.toNat = 45
        omega
      have hlen : (restOf (x :: t)).length ≤ 40 := by unfold restOf; split <;> simp at hs ⊢ <;> omega
      have := Right_tail (negOf (x :: t)) (restOf (x :: t)) hlen
      refine Ev.congr (f := fun k => calamusref01_Right.j0 k (tx (x :: t)) (negOf (x :: t))) (fun k => ?_) (Ev.step (f := fun k => calamusref01_Right.j1 k (tx (restOf (x :: t))) (negOf (x :: t))) (fun k => ?_) (Ev.step (fun k => ?_) this))
      · simp only [calamusref01_Right.f]
        rw [if_neg (by rw [tx_size]; omega), if_neg (by rw [tx_list]; simp), if_pos (by rw [tx_size, List.length_cons]; omega), hn]
      · simp only [calamusref01_Right.j0]
        unfold restOf
        by_cases h : negOf (x :: t) = true
        · rw [if_pos h, if_pos h, if_pos (by rw [tx_size, List.length_cons]; omega)]
          congr 1
          apply tx_ext
          rw [Lib.extract_data, tx_size, tx_data, tx_data]
          simp
        · rw [if_neg h, if_neg h]
      · simp only [calamusref01_Right.j1]
  · rw [if_neg hs]
    refine Ev.congr (f := fun _ => some (false, [], 0, false)) (fun k => ?_) (Ev.now _)
    simp only [calamusref01_Right.f]
    rw [if_pos (by rw [tx_size]; omega)]
def readNext (k : Nat) (bt : Bool × List Int × Int × Bool) : Option (Int × Int) := if bt.2.2.2 = true then (calamusref01_Read.l0 k bt.1 bt.2.1 bt.2.2.1 [0] [1] 0) else (some (0, 2))
theorem Read_ev (s : List UInt8) : Ev (fun k => calamusref01_Read.f k (tx s)) (read s) := by
  have hr := Right_ev s
  unfold rightOf at hr
  have bad : goodText s = false → Ev (fun k => calamusref01_Right.f k (tx s)) (false, [], 0, false) → Ev (fun k => calamusref01_Read.f k (tx s)) (read s) := fun hg h => by
    unfold read
    rw [if_neg (by rw [hg]; simp)]
    exact Ev.congr (f := fun k => (calamusref01_Right.f k (tx s)).bind (readNext k)) (fun k => rfl) (Ev.bind h (Ev.congr (f := fun _ => some (0, 2)) (fun k => by unfold readNext; rw [if_neg (by simp)]) (Ev.now _)))
  have notok : ∀ (ng : Bool) (l : List Int) (b : Int), goodText s = false → Ev (fun k => calamusref01_Right.f k (tx s)) (ng, l, b, false) → Ev (fun k => calamusref01_Read.f k (tx s)) (read s) := fun ng l b hg h => by
    unfold read
    rw [if_neg (by rw [hg]; simp)]
    exact Ev.congr (f := fun k => (calamusref01_Right.f k (tx s)).bind (readNext k)) (fun k => rfl) (Ev.bind h (Ev.congr (f := fun _ => some (0, 2)) (fun k => by unfold readNext; rw [if_neg (by simp)]) (Ev.now _)))
  have good : ∀ (w p : List UInt8), wholeOf s = w → partOf s = p → goodText s = true → (w ++ p).all isDig = true → (w ++ p).length ≤ 60 → Ev (fun k => calamusref01_Right.f k (tx s)) (negOf s, dv (w ++ p), (p.length : Int), true) → Ev (fun k => calamusref01_Read.f k (tx s)) (read s) := fun w p e1 e2 hg hd hl h => by
    have hL := read_loop (negOf s) (dv (w ++ p)) p.length (dv_digit _ hd) (by rw [dv_length]; exact hl) (by rw [dv_length, List.length_append]; omega) (dv (w ++ p)).length 0 [0] [1] (by omega) (Dig_one (by decide) (by decide)) (Dig_one (by decide) (by decide)) (by simp) (by simp) (by
      rw [val_one, Nat.zero_sub, Int.pow_zero])
    have ev : read s = fin (negOf s) (valD ((dv (w ++ p)).drop 0) (val [0]) * 65536 / 10 ^ p.length + if (10 : Int) ^ p.length ≤ 2 * (valD ((dv (w ++ p)).drop 0) (val [0]) * 65536 % 10 ^ p.length) then 1 else 0) := by
      unfold read
      rw [if_pos hg, e1, e2, ← fin_sign, List.drop_zero, val_one, valD_dv, Int.zero_mul, Int.zero_add]
      congr 1
      unfold magR
      generalize val10 (w ++ p) = A
      have e10 : ((10 ^ p.length : Nat) : Int) = 10 ^ p.length := by rw [Int.natCast_pow]; rfl
      rw [← e10]
      generalize 10 ^ p.length = B
      rw [Int.natCast_add, Int.natCast_ediv, Int.natCast_mul]
      congr 1
      have em : (A : Int) * 65536 % B = ((A * 65536 % B : Nat) : Int) := by rw [Int.natCast_emod, Int.natCast_mul]; rfl
      rw [em]
      generalize A * 65536 % B = R
      by_cases h : B ≤ 2 * R
      · rw [if_pos h, if_pos (by omega)]; rfl
      · rw [if_neg h, if_neg (by omega)]; rfl
    rw [ev]
    exact Ev.congr (f := fun k => (calamusref01_Right.f k (tx s)).bind (readNext k)) (fun k => rfl) (Ev.bind h (Ev.congr (fun k => by unfold readNext; rw [if_pos rfl]; rfl) hL))
  have hrl : (restOf s).length ≤ s.length := by unfold restOf; split <;> simp
  have hcl : ∀ l : List UInt8, (cutAt 46 l).1.length + ((cutAt 46 l).2.getD []).length ≤ l.length := fun l => by
    induction l with
    | nil => simp [cutAt]
    | cons x l ih =>
      by_cases h : x = 46
      · simp [cutAt, h]
      · simp [cutAt, h]; omega
  have hcl2 := hcl (restOf s)
  by_cases hs : s.length ≤ 40
  · rw [if_pos hs] at hr
    by_cases hw : (wholeOf s).all isDig = true
    · rw [if_pos hw] at hr
      rcases hp : (cutAt 46 (restOf s)).2 with _ | p
      · rw [hp] at hr
        simp only at hr
        have hpt : pointOf s = false := by unfold pointOf; rw [hp]; rfl
        have hpa : partOf s = [] := by unfold partOf; rw [hp]; rfl
        have hgt : goodText s = !(wholeOf s).isEmpty := by unfold goodText allDig; rw [hpt, hw]; simp [hs]
        cases he : (wholeOf s).isEmpty with
        | true =>
          rw [he] at hr hgt
          exact notok _ _ _ hgt hr
        | false =>
          rw [he] at hr hgt
          exact good (wholeOf s) [] rfl hpa hgt (by rw [List.append_nil]; exact hw) (by rw [List.append_nil]; unfold wholeOf; omega) (by rw [List.append_nil]; exact hr)
      · rw [hp] at hr
        simp only at hr
        have hpt : pointOf s = true := by unfold pointOf; rw [hp]; rfl
        have hpa : partOf s = p := by unfold partOf; rw [hp]; rfl
        by_cases hq : wholeOf s ≠ [] ∧ p.all isDig = true
        · rw [if_pos hq] at hr
          have hne : (wholeOf s).isEmpty = false := by simpa using hq.1
          have hgt : goodText s = !p.isEmpty := by unfold goodText allDig; rw [hpt, hw, hpa, hq.2, hne]; simp [hs]
          cases he : p.isEmpty with
          | true =>
            rw [he] at hr hgt
            exact notok _ _ _ hgt hr
          | false =>
            rw [he] at hr hgt
            rw [hp] at hcl2
            exact good (wholeOf s) p rfl hpa hgt (by rw [List.all_append, hw, hq.2]; rfl) (by rw [List.length_append]; unfold wholeOf; simp at hcl2; omega) (by rw [← dv_append]; exact hr)
        · rw [if_neg hq] at hr
          refine bad ?_ hr
          unfold goodText allDig
          rw [hpt, hw, hpa]
          by_cases h1 : wholeOf s = []
          · rw [h1]; simp
          · have : p.all isDig = false := by
              cases h2 : p.all isDig with
              | false => rfl
              | true => exact absurd ⟨h1, h2⟩ hq
            rw [this]; simp
    · rw [if_neg hw] at hr
      refine bad ?_ hr
      unfold goodText allDig
      rw [show (wholeOf s).all isDig = false by simpa using hw]
      simp
  · rw [if_neg hs] at hr
    refine bad ?_ hr
    unfold goodText
    rw [show decide (s.length ≤ 40) = false by simpa using hs]
    simp
end Go.Proofs.YtfhadnhpognefaaGreatDoor.Fx
