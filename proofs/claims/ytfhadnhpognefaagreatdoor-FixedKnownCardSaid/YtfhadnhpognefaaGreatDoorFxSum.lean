/- Sums and differences: what the program's functions and the document's come to. -/
import Derived.Test.YtfhadnhpognefaaGreatDoorFxProg
import Derived.Test.YtfhadnhpognefaaGreatDoorFxLong3
namespace Go.Proofs.YtfhadnhpognefaaGreatDoor.Fx
open Go Go.RowKit Go.Proofs.YtfhadnhpognefaaGreatDoorW.PrintWords Go.Proofs.YtfhadnhpognefaaGreatDoor.PRef

theorem drawn_below {w w' : World} (h : Drawn0 w w') : Below w.heap.size w w' := by
  obtain ⟨n, rfl⟩ := h
  exact below_drewN (Below.refl _ _) n

theorem wrap_sum {n : Int} (h0 : -18446744073709551616 ≤ n) (h1 : n < 18446744073709551616) :
    (inI n = true ∧ wrap64 n = n) ∨ (9223372036854775807 < n ∧ wrap64 n = n - 18446744073709551616) ∨ (n < -9223372036854775808 ∧ wrap64 n = n + 18446744073709551616) := by
  rw [inI_iff]; unfold wrap64; omega
theorem fixed_Add_flow (a b : Int) (ha0 : -9223372036854775808 ≤ a) (ha1 : a ≤ 9223372036854775807) (hb0 : -9223372036854775808 ≤ b) (hb1 : b ≤ 9223372036854775807) : fixed_Add.f a b = some (flow (a + b)) := by
  unfold fixed_Add.f flow
  rcases wrap_sum (n := a + b) (by omega) (by omega) with ⟨h, e⟩ | ⟨h, e⟩ | ⟨h, e⟩
  · rw [e, if_pos h]
    have hc : (decide (a + b > a) != decide (b > 0)) = false := by
      rw [show decide (a + b > a) = decide (b > 0) by rw [decide_eq_decide]; omega]; simp
    rw [hc]; rfl
  · have hn : ¬ inI (a + b) = true := by rw [inI_iff]; omega
    have hc : (decide (a + b - 18446744073709551616 > a) != decide (b > 0)) = true := by
      rw [show decide (a + b - 18446744073709551616 > a) = false by simp; omega, show decide (b > 0) = true by simp; omega]; rfl
    rw [e, if_neg hn, if_pos hc, if_neg (by omega)]
  · have hn : ¬ inI (a + b) = true := by rw [inI_iff]; omega
    have hc : (decide (a + b + 18446744073709551616 > a) != decide (b > 0)) = true := by
      rw [show decide (a + b + 18446744073709551616 > a) = true by simp; omega, show decide (b > 0) = false by simp; omega]; rfl
    rw [e, if_neg hn, if_pos hc, if_neg (by omega)]
theorem fixed_Sub_flow (a b : Int) (ha0 : -9223372036854775808 ≤ a) (ha1 : a ≤ 9223372036854775807) (hb0 : -9223372036854775808 ≤ b) (hb1 : b ≤ 9223372036854775807) : fixed_Sub.f a b = some (flow (a - b)) := by
  unfold fixed_Sub.f flow
  rcases wrap_sum (n := a - b) (by omega) (by omega) with ⟨h, e⟩ | ⟨h, e⟩ | ⟨h, e⟩
  · rw [e, if_pos h]
    have hc : (decide (a - b < a) != decide (b > 0)) = false := by
      rw [show decide (a - b < a) = decide (b > 0) by rw [decide_eq_decide]; omega]; simp
    rw [hc]; rfl
  · have hn : ¬ inI (a - b) = true := by rw [inI_iff]; omega
    have hc : (decide (a - b - 18446744073709551616 < a) != decide (b > 0)) = true := by
      rw [show decide (a - b - 18446744073709551616 < a) = true by simp; omega, show decide (b > 0) = false by simp; omega]; rfl
    rw [e, if_neg hn, if_pos hc, if_neg (by omega)]
  · have hn : ¬ inI (a - b) = true := by rw [inI_iff]; omega
    have hc : (decide (a - b + 18446744073709551616 < a) != decide (b > 0)) = true := by
      rw [show decide (a - b + 18446744073709551616 < a) = false by simp; omega, show decide (b > 0) = true by simp; omega]; rfl
    rw [e, if_neg hn, if_pos hc, if_neg (by omega)]
theorem ref_Add_flow (a b : Int) (ha0 : -9223372036854775808 ≤ a) (ha1 : a ≤ 9223372036854775807) (hb0 : -9223372036854775808 ≤ b) (hb1 : b ≤ 9223372036854775807) : calamusref01_Add.f a b = some (flow (a + b)) := by
  unfold calamusref01_Add.f flow
  rcases wrap_sum (n := a + b) (by omega) (by omega) with ⟨h, e⟩ | ⟨h, e⟩ | ⟨h, e⟩
  · rw [inI_iff] at h
    have hi : inI (a + b) = true := by rw [inI_iff]; exact h
    rw [e, if_pos hi]
    repeat' split
    all_goals first | rfl | omega
  · have hn : ¬ inI (a + b) = true := by rw [inI_iff]; omega
    rw [e, if_neg hn]
    repeat' split
    all_goals first | rfl | omega
  · have hn : ¬ inI (a + b) = true := by rw [inI_iff]; omega
    rw [e, if_neg hn]
    repeat' split
    all_goals first | rfl | omega
theorem ref_Sub_flow (a b : Int) (ha0 : -9223372036854775808 ≤ a) (ha1 : a ≤ 9223372036854775807) (hb0 : -9223372036854775808 ≤ b) (hb1 : b ≤ 9223372036854775807) : calamusref01_Sub.f a b = some (flow (a - b)) := by
  unfold calamusref01_Sub.f
  by_cases h : b = -9223372036854775808
  · rw [if_pos h]
    by_cases h2 : a ≥ 0
    · rw [if_pos h2, flow_over (by omega)]
    · rw [if_neg h2, flow_in (by omega) (by omega), w64 (by omega) (by omega)]
  · rw [if_neg h, w64 (by omega) (by omega), ref_Add_flow a (-b) ha0 ha1 (by omega) (by omega), Option.bind_some, show a + -b = a - b by omega]

theorem Add_tells (a b : Int) (ha0 : -9223372036854775808 ≤ a) (ha1 : a ≤ 9223372036854775807) (hb0 : -9223372036854775808 ≤ b) (hb1 : b ≤ 9223372036854775807) (w : World) :
    Calls Tryz.prog 34 #[.int .i64 a, .int .i64 b] w fun e w' => e = .returned (.tuple #[.int .i64 (flow (a + b)).1, .int .i64 (flow (a + b)).2]) ∧ Below w.heap.size w w' :=
  (fixed_Add.calls a b _ _ w (fixed_Add_flow a b ha0 ha1 hb0 hb1)).mono fun _ _ h => ⟨h.1, drawn_below h.2⟩
theorem Sub_tells (a b : Int) (ha0 : -9223372036854775808 ≤ a) (ha1 : a ≤ 9223372036854775807) (hb0 : -9223372036854775808 ≤ b) (hb1 : b ≤ 9223372036854775807) (w : World) :
    Calls Tryz.prog 36 #[.int .i64 a, .int .i64 b] w fun e w' => e = .returned (.tuple #[.int .i64 (flow (a - b)).1, .int .i64 (flow (a - b)).2]) ∧ Below w.heap.size w w' :=
  (fixed_Sub.calls a b _ _ w (fixed_Sub_flow a b ha0 ha1 hb0 hb1)).mono fun _ _ h => ⟨h.1, drawn_below h.2⟩
theorem refAdd_tells (a b : Int) (ha0 : -9223372036854775808 ≤ a) (ha1 : a ≤ 9223372036854775807) (hb0 : -9223372036854775808 ≤ b) (hb1 : b ≤ 9223372036854775807) (w : World) :
    Calls Tryz.prog 35 #[.int .i64 a, .int .i64 b] w fun e w' => e = .returned (.tuple #[.int .i64 (flow (a + b)).1, .int .i64 (flow (a + b)).2]) ∧ Below w.heap.size w w' :=
  (calamusref01_Add.calls a b _ _ w (ref_Add_flow a b ha0 ha1 hb0 hb1)).mono fun _ _ h => ⟨h.1, drawn_below h.2⟩
theorem refSub_tells (a b : Int) (ha0 : -9223372036854775808 ≤ a) (ha1 : a ≤ 9223372036854775807) (hb0 : -9223372036854775808 ≤ b) (hb1 : b ≤ 9223372036854775807) (w : World) :
    Calls Tryz.prog 37 #[.int .i64 a, .int .i64 b] w fun e w' => e = .returned (.tuple #[.int .i64 (flow (a - b)).1, .int .i64 (flow (a - b)).2]) ∧ Below w.heap.size w w' :=
  (calamusref01_Sub.calls a b _ _ w (ref_Sub_flow a b ha0 ha1 hb0 hb1)).mono fun _ _ h => ⟨h.1, drawn_below h.2⟩
theorem refMulDiv_tells (a b c : Int) (ha0 : -9223372036854775808 ≤ a) (ha1 : a ≤ 9223372036854775807) (hb0 : -9223372036854775808 ≤ b) (hb1 : b ≤ 9223372036854775807) (hc0 : -9223372036854775808 ≤ c) (hc1 : c ≤ 9223372036854775807) (w : World) :
    Calls Tryz.prog 32 #[.int .i64 a, .int .i64 b, .int .i64 c] w fun e w' => e = .returned (.tuple #[.int .i64 (quot a b c false).1, .int .i64 (quot a b c false).2]) ∧ Below w.heap.size w w' := by
  obtain ⟨k, hk⟩ := MulDiv_ev a b c ha0 ha1 hb0 hb1 hc0 hc1
  exact calamusref01_MulDiv.calls k a b c _ _ w hk
theorem refRound_tells (a b c : Int) (ha0 : -9223372036854775808 ≤ a) (ha1 : a ≤ 9223372036854775807) (hb0 : -9223372036854775808 ≤ b) (hb1 : b ≤ 9223372036854775807) (hc0 : -9223372036854775808 ≤ c) (hc1 : c ≤ 9223372036854775807) (w : World) :
    Calls Tryz.prog 33 #[.int .i64 a, .int .i64 b, .int .i64 c] w fun e w' => e = .returned (.tuple #[.int .i64 (quot a b c true).1, .int .i64 (quot a b c true).2]) ∧ Below w.heap.size w w' := by
  obtain ⟨k, hk⟩ := Round_ev a b c ha0 ha1 hb0 hb1 hc0 hc1
  exact calamusref01_Round.calls k a b c _ _ w hk
end Go.Proofs.YtfhadnhpognefaaGreatDoor.Fx
