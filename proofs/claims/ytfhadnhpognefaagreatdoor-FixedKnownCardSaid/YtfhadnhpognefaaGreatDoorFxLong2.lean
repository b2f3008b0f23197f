/- The reference's long numbers, further: sum with a digit, difference, product, quotient and rest, the number with its sign; and the reference's quotient. -/
import Derived.Test.YtfhadnhpognefaaGreatDoorFxLong
import Derived.Lib.Hide
namespace Go.Proofs.YtfhadnhpognefaaGreatDoor.Fx
open Go Go.RowKit Go.Proofs.YtfhadnhpognefaaGreatDoorW.PrintWords Go.Proofs.YtfhadnhpognefaaGreatDoorW.PrintLast Go.Proofs.YtfhadnhpognefaaGreatDoorW.PrintMore Go.Proofs.YtfhadnhpognefaaGreatDoor.PRef

/-! ### plus -/
theorem plus_l {a : List Int} (ha : Dig a) (hla : a.length ≤ 100000) (d : Nat) : ∀ (i : Nat) (c : Int) (out : List Int), a.length - i = d → i ≤ a.length → out.length = i → Dig out → 0 ≤ c → c < 65536 →
    ∃ r, Ev (fun k => calamusref01_plus.l0 k a c out (i : Int)) r ∧ val r = val out + c * 65536 ^ i + (val a - pv a i) ∧ Dig r ∧ r.length ≤ a.length + 1 := by
  induction d with
  | zero =>
    intro i c out hd hi ho hdo h0 h1
    obtain rfl : i = a.length := by omega
    obtain ⟨r, hr, hv, hdr, hl⟩ := trim_ev (out ++ [c]).length (out ++ [c]) rfl (by simp; omega)
    refine ⟨r, Ev.step (f := fun k => (calamusref01_trim.f k (out ++ [c])).bind fun t => some t) (fun k => ?_) (Ev.bind hr (Ev.now _)), ?_, hdr (Dig_snoc hdo h0 (by omega)), by simp at hl; omega⟩
    · simp only [calamusref01_plus.l0]
      rw [if_neg (by omega), if_pos (by omega)]
    · rw [hv, val_snoc, ho]; unfold val; omega
  | succ d ih =>
    intro i c out hd hi ho hdo h0 h1
    obtain ⟨d0, d1⟩ := ha i
    have hx : (D a i + c) % 4294967296 = D a i + c := by omega
    obtain ⟨r, hr, hv, hdr, hl⟩ := ih (i + 1) ((D a i + c) / 65536) (out ++ [(D a i + c) % 65536]) (by omega) (by omega) (by simp [ho]) (Dig_snoc hdo (by omega) (by omega)) (by omega) (by omega)
    refine ⟨r, Ev.step (fun k => ?_) hr, ?_, hdr, hl⟩
    · simp only [calamusref01_plus.l0]
      rw [if_pos (by omega), if_pos (by omega), if_pos (by omega), rd_D, hx, and_mask32 (by omega) (by omega), w64 (by omega) (by omega)]
      rfl
    · rw [hv, val_snoc, ho, pv, pow_s]
      have e : D a i + c = 65536 * ((D a i + c) / 65536) + (D a i + c) % 65536 := by omega
      generalize (D a i + c) / 65536 = q at *
      generalize (D a i + c) % 65536 = m at *
      generalize (65536 : Int) ^ i = P at *
      have e2 : (D a i + c) * P = (65536 * q + m) * P := by rw [e]
      grind
theorem plus_val {a : List Int} (ha : Dig a) (hla : a.length ≤ 100000) (c : Int) (h0 : 0 ≤ c) (h1 : c < 65536) :
    ∃ r, Ev (fun k => calamusref01_plus.f k a c) r ∧ val r = val a + c ∧ Dig r ∧ r.length ≤ a.length + 1 := by
  obtain ⟨r, hr, hv, hd, hl⟩ := plus_l ha hla a.length 0 c [] (by omega) (by omega) rfl Dig_nil h0 h1
  refine ⟨r, Ev.congr (fun k => rfl) hr, ?_, hd, hl⟩
  rw [hv]; simp [val, pv]; omega

/-! ### minus -/
theorem minus_l {a b : List Int} (ha : Dig a) (hb : Dig b) (hla : a.length ≤ 100000) (d : Nat) : ∀ (i : Nat) (t : Int) (out : List Int), a.length - i = d → i ≤ a.length → out.length = i → Dig out → 0 ≤ t → t ≤ 1 →
    ∃ r t', Ev (fun k => calamusref01_minus.l0 k a b out t (i : Int)) r ∧ val r = val out + (val a - pv a i) - (pv b a.length - pv b i) - t * 65536 ^ i + t' * 65536 ^ a.length ∧ 0 ≤ t' ∧ t' ≤ 1 ∧ Dig r ∧ r.length ≤ a.length := by
  induction d with
  | zero =>
    intro i t out hd hi ho hdo h0 h1
    obtain rfl : i = a.length := by omega
    obtain ⟨r, hr, hv, hdr, hl⟩ := trim_ev out.length out rfl (by omega)
    refine ⟨r, t, Ev.step (f := fun k => (calamusref01_trim.f k out).bind fun t => some t) (fun k => ?_) (Ev.bind hr (Ev.now _)), ?_, h0, h1, hdr hdo, by omega⟩
    · simp only [calamusref01_minus.l0]
      rw [if_neg (by omega)]
    · rw [hv]; unfold val; omega
  | succ d ih =>
    intro i t out hd hi ho hdo h0 h1
    obtain ⟨d0, d1⟩ := ha i
    obtain ⟨f0, f1⟩ := hb i
    have hw : wrap64 ((i : Int) + 1) = ((i + 1 : Nat) : Int) := by rw [w64 (by omega) (by omega)]; omega
    have key : ∀ (x t2 : Int), x = D a i - (t + D b i) + 65536 * t2 → 0 ≤ t2 → t2 ≤ 1 → 0 ≤ x → x < 65536 →
        (∀ k, calamusref01_minus.l0 (k + 1) a b out t (i : Int) = calamusref01_minus.l0 k a b (out ++ [x]) t2 ((i + 1 : Nat) : Int)) →
        ∃ r t', Ev (fun k => calamusref01_minus.l0 k a b out t (i : Int)) r ∧ val r = val out + (val a - pv a i) - (pv b a.length - pv b i) - t * 65536 ^ i + t' * 65536 ^ a.length ∧ 0 ≤ t' ∧ t' ≤ 1 ∧ Dig r ∧ r.length ≤ a.length := by
      intro x t2 hx g0 g1 x0 x1 hstep
      obtain ⟨r, t', hr, hv, h2, h3, hdr, hl⟩ := ih (i + 1) t2 (out ++ [x]) (by omega) (by omega) (by simp [ho]) (Dig_snoc hdo x0 x1) g0 g1
      refine ⟨r, t', Ev.step hstep hr, ?_, h2, h3, hdr, hl⟩
      rw [hv, val_snoc, ho, pv, pv, pow_s, hx]
      generalize (65536 : Int) ^ i = P at *
      grind
    by_cases hlt : D a i < t + D b i
    · refine key (D a i + 65536 - (t + D b i)) 1 (by omega) (by omega) (by omega) (by omega) (by omega) (fun k => ?_)
      simp only [calamusref01_minus.l0, rd_D]
      rw [if_pos (by omega)]
      by_cases hib : (i : Int) < (b.length : Int)
      · rw [if_pos hib, if_pos (by omega), if_pos (by omega), if_pos (by omega), hw, show (D a i + 65536 - (t + D b i)) % 4294967296 = D a i + 65536 - (t + D b i) by omega]
      · have e0 := D_over (a := b) (j := i) (by omega)
        rw [if_neg hib, if_pos (by omega), if_pos (by omega), if_pos (by omega), hw, show (D a i + 65536 - t) % 4294967296 = D a i + 65536 - (t + D b i) by omega]
    · refine key (D a i - (t + D b i)) 0 (by omega) (by omega) (by omega) (by omega) (by omega) (fun k => ?_)
      simp only [calamusref01_minus.l0, rd_D]
      rw [if_pos (by omega)]
      by_cases hib : (i : Int) < (b.length : Int)
      · rw [if_pos hib, if_pos (by omega), if_neg (by omega), if_pos (by omega), hw, show (D a i - (t + D b i)) % 4294967296 = D a i - (t + D b i) by omega]
      · have e0 := D_over (a := b) (j := i) (by omega)
        rw [if_neg hib, if_pos (by omega), if_neg (by omega), if_pos (by omega), hw, show (D a i - t) % 4294967296 = D a i - (t + D b i) by omega]
theorem minus_val {a b : List Int} (ha : Dig a) (hb : Dig b) (hla : a.length ≤ 100000) (hle : val b ≤ val a) :
    ∃ r, Ev (fun k => calamusref01_minus.f k a b) r ∧ val r = val a - val b ∧ Dig r ∧ r.length ≤ a.length := by
  obtain ⟨r, t', hr, hv, h0, h1, hd, hl⟩ := minus_l ha hb hla a.length 0 0 [] (by omega) (by omega) rfl Dig_nil (by omega) (by omega)
  refine ⟨r, Ev.congr (fun k => rfl) hr, ?_, hd, hl⟩
  have hr0 := val_nonneg hd
  have hr1 := val_lt hd hl
  have ha1 := val_lt ha (Nat.le_refl _)
  have hb2 : pv b a.length = val b := by
    have e := pv_ge (a := b) (a.length + b.length) (by omega)
    rcases div_pow_D hb a.length b.length with h | h
    · rw [← h, e]
    · rw [e] at h; omega
  rw [hb2] at hv
  simp only [pv, val, List.length_nil, Int.zero_mul] at hv
  have hp := pow_pos' a.length
  have e : val r = pv r r.length := rfl
  have e2 : val b = pv b b.length := rfl
  have e3 : val a = pv a a.length := rfl
  have ht : t' = 0 ∨ t' = 1 := by omega
  rcases ht with rfl | rfl
  · rw [Int.zero_mul] at hv; omega
  · rw [Int.one_mul] at hv; omega

/-! ### times -/
theorem times_arith (v o q m P R A B V W c : Int) (h : o + A * B + c = 65536 * q + m) :
    v + (m - o) * (P * R) + q * (65536 * (P * R)) + A * (V - (W + B * R)) * P = v + c * (P * R) + A * (V - W) * P := by
  obtain rfl : m = o + A * B + c - 65536 * q := by omega
  grind
set_option maxHeartbeats 1000000 in
theorem times_l1 {a b : List Int} (ha : Dig a) (hb : Dig b) (hla : a.length + b.length ≤ 100000) (i : Nat) (hi : i < a.length) (d : Nat) : ∀ (j : Nat) (c : Int) (out : List Int), b.length - j = d → j ≤ b.length → out.length = a.length + b.length → Dig out →
    0 ≤ c → c < 65536 → (∀ p, i + b.length ≤ p → D out p = 0) →
    ∃ out', (∀ r, Ev (fun k => calamusref01_times.l0 k a b out' ((i + 1 : Nat) : Int)) r → Ev (fun k => calamusref01_times.l1 k a b out (i : Int) c (j : Int)) r) ∧
      val out' = val out + c * 65536 ^ (i + j) + D a i * (val b - pv b j) * 65536 ^ i ∧ Dig out' ∧ out'.length = a.length + b.length ∧ ∀ p, i + 1 + b.length ≤ p → D out' p = 0 := by
  induction d with
  | zero =>
    intro j c out hd hj ho hdo h0 h1 hz
    obtain rfl : j = b.length := by omega
    have hw : wrap64 ((i : Int) + (b.length : Int)) = ((i + b.length : Nat) : Int) := by rw [w64 (by omega) (by omega)]; omega
    have hw1 : wrap64 ((i : Int) + 1) = ((i + 1 : Nat) : Int) := by rw [w64 (by omega) (by omega)]; omega
    refine ⟨out.set (i + b.length) c, fun r hr => Ev.step (fun k => ?_) hr, ?_, Dig_set hdo _ h0 h1, by simp [ho], fun p hp => ?_⟩
    · simp only [calamusref01_times.l1, hw, hw1]
      rw [if_neg (by omega), if_pos (by omega), if_pos (by omega), Int.toNat_natCast, show c % 4294967296 = c by omega]
    · rw [val_set _ _ _ (by omega), hz _ (Nat.le_refl _)]
      have : val b - pv b b.length = 0 := by unfold val; omega
      rw [this]; simp
    · rw [D_set, if_neg (by omega)]; exact hz p (by omega)
  | succ d ih =>
    intro j c out hd hj ho hdo h0 h1 hz
    obtain ⟨a0, a1⟩ := ha i
    obtain ⟨b0, b1⟩ := hb j
    obtain ⟨o0, o1⟩ := hdo (i + j)
    have hm0 : 0 ≤ D a i * D b j := Int.mul_nonneg a0 b0
    have hm1 : D a i * D b j ≤ 65535 * 65535 := Int.mul_le_mul (by omega) (by omega) b0 (by omega)
    have hw : wrap64 ((i : Int) + (j : Int)) = ((i + j : Nat) : Int) := by rw [w64 (by omega) (by omega)]; omega
    have hw1 : wrap64 ((j : Int) + 1) = ((j + 1 : Nat) : Int) := by rw [w64 (by omega) (by omega)]; omega
    have hX : IntKind.u64.wrap (IntKind.u64.wrap (IntKind.u64.wrap (D out (i + j)) + IntKind.u64.wrap (IntKind.u64.wrap (D a i) * IntKind.u64.wrap (D b j))) + c) = D out (i + j) + D a i * D b j + c := by
      rw [u64in (n := D out (i + j)) (by omega) (by omega), u64in (n := D a i) (by omega) (by omega), u64in (n := D b j) (by omega) (by omega), u64in (n := D a i * D b j) (by omega) (by omega), u64in (n := D out (i + j) + D a i * D b j) (by omega) (by omega), u64in (by omega) (by omega)]
    have Hw := Lib.hid hw; have Hw1 := Lib.hid hw1; clear hw hw1
    have HX := Lib.hid hX; clear hX
    obtain ⟨x, hx⟩ : ∃ x, x = D out (i + j) + D a i * D b j + c := ⟨_, rfl⟩
    have hX2 := Lib.hid (HX.out.trans hx.symm)
    clear HX
    have hx0 : 0 ≤ x := by omega
    have hx1 : x < 4294967296 := by omega
    have hxe : x % 65536 % 4294967296 = x % 65536 := by omega
    obtain ⟨out', hr', hv, hd', hl', hz'⟩ := ih (j + 1) (x / 65536) (out.set (i + j) (x % 65536)) (by omega) (by omega) (by simp [ho]) (Dig_set hdo _ (by omega) (by omega)) (by omega) (by omega)
      (fun p hp => by rw [D_set, if_neg (by omega)]; exact hz p hp)
    refine ⟨out', fun r hr => Ev.step (fun k => ?_) (hr' r hr), ?_, hd', hl', hz'⟩
    · simp only [calamusref01_times.l1, Hw.out, Hw1.out, rd_D, hX2.out]
      rw [if_pos (by omega), if_pos (by omega), if_pos (by omega), if_pos (by omega), if_pos (by omega), if_pos (by omega), Int.toNat_natCast, and_mask (by omega) (by omega), hxe]
    · rw [hv, val_set _ _ _ (by omega), pv, ← Nat.add_assoc, pow_s, Int.pow_add]
      exact times_arith _ _ _ _ _ _ _ _ _ _ _ (by rw [← hx]; omega)
theorem times_l0 {a b : List Int} (ha : Dig a) (hb : Dig b) (hla : a.length + b.length ≤ 100000) (d : Nat) : ∀ (i : Nat) (out : List Int), a.length - i = d → i ≤ a.length → out.length = a.length + b.length → Dig out → (∀ p, i + b.length ≤ p → D out p = 0) →
    ∃ r, Ev (fun k => calamusref01_times.l0 k a b out (i : Int)) r ∧ val r = val out + (val a - pv a i) * val b ∧ Dig r ∧ r.length ≤ a.length + b.length := by
  induction d with
  | zero =>
    intro i out hd hi ho hdo hz
    obtain rfl : i = a.length := by omega
    obtain ⟨r, hr, hv, hdr, hl⟩ := trim_ev out.length out rfl (by omega)
    refine ⟨r, Ev.step (f := fun k => (calamusref01_trim.f k out).bind fun t => some t) (fun k => ?_) (Ev.bind hr (Ev.now _)), ?_, hdr hdo, by omega⟩
    · simp only [calamusref01_times.l0]
      rw [if_neg (by omega)]
    · rw [hv]
      have : val a - pv a a.length = 0 := by unfold val; omega
      rw [this]; simp
  | succ d ih =>
    intro i out hd hi ho hdo hz
    obtain ⟨out', hstep, hv, hd', hl', hz'⟩ := times_l1 ha hb hla i (by omega) b.length 0 0 out (by omega) (by omega) ho hdo (by omega) (by omega) hz
    obtain ⟨r, hr, hvr, hdr, hl⟩ := ih (i + 1) out' (by omega) (by omega) hl' hd' hz'
    refine ⟨r, Ev.step (fun k => ?_) (hstep r hr), ?_, hdr, hl⟩
    · simp only [calamusref01_times.l0]
      rw [if_pos (by omega)]
      rfl
    · rw [hvr, hv, pv]
      simp only [pv, Int.zero_mul, Int.sub_zero]
      grind
theorem D_replicate (n j : Nat) : D (List.replicate n 0) j = 0 := by
  simp only [D, List.getD_eq_getElem?_getD, List.getElem?_replicate]; split <;> rfl
theorem times_val {a b : List Int} (ha : Dig a) (hb : Dig b) (hla : a.length + b.length ≤ 100000) :
    ∃ r, Ev (fun k => calamusref01_times.f k a b) r ∧ val r = val a * val b ∧ Dig r ∧ r.length ≤ a.length + b.length := by
  have hw : wrap64 ((a.length : Int) + (b.length : Int)) = ((a.length + b.length : Nat) : Int) := by rw [w64 (by omega) (by omega)]; omega
  obtain ⟨r, hr, hv, hd, hl⟩ := times_l0 ha hb hla a.length 0 (List.replicate (a.length + b.length) 0) (by omega) (by omega) (by simp) (fun j => by rw [D_replicate]; omega) (fun p _ => D_replicate _ _)
  refine ⟨r, Ev.congr (fun k => ?_) hr, ?_, hd, hl⟩
  · simp only [calamusref01_times.f, hw]
    rw [if_pos (by omega), if_pos (by omega), Int.toNat_natCast]
    rfl
  · have e0 : ∀ n, pv (List.replicate (a.length + b.length) 0) n = 0 := fun n => by
      induction n with
      | zero => rfl
      | succ n ih => rw [pv, ih, D_replicate]; simp
    rw [hv]
    unfold val at *
    rw [e0]
    simp [pv]
end Go.Proofs.YtfhadnhpognefaaGreatDoor.Fx
