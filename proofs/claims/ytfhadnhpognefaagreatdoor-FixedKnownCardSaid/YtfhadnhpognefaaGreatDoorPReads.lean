/- Printed by the kit's print.py over stand-ins for some callees; their contracts, under 'Wf', are this session's. -/
import Derived.Test.YtfhadnhpognefaaGreatDoorPRefx
import Derived.Test.YtfhadnhpognefaaGreatDoorFxSubs
namespace Go.Proofs.YtfhadnhpognefaaGreatDoor.PRef
open Go Go.RowKit Go.Proofs.YtfhadnhpognefaaGreatDoorW.PrintWords Go.Proofs.YtfhadnhpognefaaGreatDoorW.PrintLast Go.Proofs.YtfhadnhpognefaaGreatDoorW.PrintMore Go.Proofs.YtfhadnhpognefaaGreatDoor.Fx
attribute [local go_sem] max2_int min2_int max_two min_two max_three min_three max_four min_four
set_option linter.unusedVariables false
set_option linter.unusedSimpArgs false

/-! ### calamuslaw01_FixedReads: function 7 -/
mutual
def calamuslaw01_FixedReads.j0 : Nat → ByteArray → Int → Int → Int → Bool → Option (Bool)
  | 0, _, _, _, _, _ => none
  | k + 1, x0, x1, x5, x6, x40 => if x40 = true then (some false) else ((calamusref01_Right.f k x0).bind fun bt296 => (if bt296.2.2.2 = true then (calamuslaw01_FixedReads.j1 k x1 x5 x6 bt296.1 bt296.2.1 bt296.2.2.1 (decide ((wrap64 ((bt296.2.1.length : Int) + (wrap64 ((wrap64 (Int.tmod x1 8)) * 2)))) > 36))) else (calamuslaw01_FixedReads.j1 k x1 x5 x6 bt296.1 bt296.2.1 bt296.2.2.1 true)))
def calamuslaw01_FixedReads.j1 : Nat → Int → Int → Int → Bool → List Int → Int → Bool → Option (Bool)
  | 0, _, _, _, _, _, _, _ => none
  | k + 1, x1, x5, x6, x9, x10, x11, x59 => if x59 = true then ((calamuslaw01_works.f k).bind fun t302 => (some t302)) else (if x9 = true then (calamuslaw01_FixedReads.j2 k x1 x5 x6 x10 x11 (⟨#[45]⟩ : ByteArray)) else (calamuslaw01_FixedReads.j2 k x1 x5 x6 x10 x11 (⟨#[]⟩ : ByteArray)))
def calamuslaw01_FixedReads.j2 : Nat → Int → Int → Int → List Int → Int → ByteArray → Option (Bool)
  | 0, _, _, _, _, _, _ => none
  | k + 1, x1, x5, x6, x10, x11, x13 => calamuslaw01_FixedReads.l0 k x1 x5 x6 x10 x11 x13 0
def calamuslaw01_FixedReads.l0 : Nat → Int → Int → Int → List Int → Int → ByteArray → Int → Option (Bool)
  | 0, _, _, _, _, _, _, _ => none
  | k + 1, x1, x5, x6, x10, x11, x13, x14 => if x14 < (Int.tmod x1 8) then (if x13.size + 1 ≤ 9223372036854775807 then (calamuslaw01_FixedReads.l0 k x1 x5 x6 x10 x11 (x13 ++ (⟨#[48]⟩ : ByteArray)) ((x14 + 1) % 256)) else (none)) else (calamuslaw01_FixedReads.l1 k x1 x5 x6 x10 x11 x13 0)
def calamuslaw01_FixedReads.l1 : Nat → Int → Int → Int → List Int → Int → ByteArray → Int → Option (Bool)
  | 0, _, _, _, _, _, _, _ => none
  | k + 1, x1, x5, x6, x10, x11, x13, x15 => if x15 < (x10.length : Int) then (if x15 = (wrap64 ((x10.length : Int) - x11)) then (if x13.size + 1 ≤ 9223372036854775807 then (if 0 ≤ x15 then (if 0 ≤ (rd x10 x15) then (if (rd x10 x15) ≤ (wrap64 ((rd x10 x15) + 1)) then (if (wrap64 ((rd x10 x15) + 1)) ≤ 10 then (if (x13 ++ (⟨#[46]⟩ : ByteArray)).size + ((⟨#[48, 49, 50, 51, 52, 53, 54, 55, 56, 57]⟩ : ByteArray).extract ((rd x10 x15) : Int).toNat ((wrap64 ((rd x10 x15) + 1)) : Int).toNat).size ≤ 9223372036854775807 then (calamuslaw01_FixedReads.l1 k x1 x5 x6 x10 x11 ((x13 ++ (⟨#[46]⟩ : ByteArray)) ++ ((⟨#[48, 49, 50, 51, 52, 53, 54, 55, 56, 57]⟩ : ByteArray).extract ((rd x10 x15) : Int).toNat ((wrap64 ((rd x10 x15) + 1)) : Int).toNat)) (wrap64 (x15 + 1))) else (none)) else (none)) else (none)) else (none)) else (none)) else (none)) else (if 0 ≤ x15 then (if 0 ≤ (rd x10 x15) then (if (rd x10 x15) ≤ (wrap64 ((rd x10 x15) + 1)) then (if (wrap64 ((rd x10 x15) + 1)) ≤ 10 then (if x13.size + ((⟨#[48, 49, 50, 51, 52, 53, 54, 55, 56, 57]⟩ : ByteArray).extract ((rd x10 x15) : Int).toNat ((wrap64 ((rd x10 x15) + 1)) : Int).toNat).size ≤ 9223372036854775807 then (calamuslaw01_FixedReads.l1 k x1 x5 x6 x10 x11 (x13 ++ ((⟨#[48, 49, 50, 51, 52, 53, 54, 55, 56, 57]⟩ : ByteArray).extract ((rd x10 x15) : Int).toNat ((wrap64 ((rd x10 x15) + 1)) : Int).toNat)) (wrap64 (x15 + 1))) else (none)) else (none)) else (none)) else (none)) else (none))) else (if x11 = 0 then (calamuslaw01_FixedReads.j5 k x1 x5 x6 x13 (decide ((Int.tmod x1 8) > 0))) else (calamuslaw01_FixedReads.j5 k x1 x5 x6 x13 false))
def calamuslaw01_FixedReads.j5 : Nat → Int → Int → Int → ByteArray → Bool → Option (Bool)
  | 0, _, _, _, _, _ => none
  | k + 1, x1, x5, x6, x13, x102 => if x102 = true then (if x13.size + 1 ≤ 9223372036854775807 then (calamuslaw01_FixedReads.j6 k x1 x5 x6 (x13 ++ (⟨#[46]⟩ : ByteArray))) else (none)) else (calamuslaw01_FixedReads.j6 k x1 x5 x6 x13)
def calamuslaw01_FixedReads.j6 : Nat → Int → Int → Int → ByteArray → Option (Bool)
  | 0, _, _, _, _ => none
  | k + 1, x1, x5, x6, x13 => calamuslaw01_FixedReads.l2 k x1 x5 x6 x13 0
def calamuslaw01_FixedReads.l2 : Nat → Int → Int → Int → ByteArray → Int → Option (Bool)
  | 0, _, _, _, _, _ => none
  | k + 1, x1, x5, x6, x13, x16 => if x16 < (Int.tmod x1 8) then (if x13.size + 1 ≤ 9223372036854775807 then (calamuslaw01_FixedReads.l2 k x1 x5 x6 (x13 ++ (⟨#[48]⟩ : ByteArray)) ((x16 + 1) % 256)) else (none)) else ((fixed_Read.f k x13).bind fun bt307 => (if bt307.1 = x5 then (if bt307.2 = x6 then ((calamuslaw01_works.f k).bind fun t309 => (some t309)) else (some false)) else (some false)))
end
def calamuslaw01_FixedReads.f (k : Nat) (a0 : ByteArray) (a1 : Int) : Option (Bool) := if (a0.size : Int) > 200 then ((calamuslaw01_works.f k).bind fun t291 => (some t291)) else ((fixed_Read.f k a0).bind fun bt292 => ((calamusref01_Read.f k a0).bind fun bt294 => (if bt292.1 = bt294.1 then (calamuslaw01_FixedReads.j0 k a0 a1 bt292.1 bt292.2 (bt292.2 != bt294.2)) else (calamuslaw01_FixedReads.j0 k a0 a1 bt292.1 bt292.2 true))))
set_option maxHeartbeats 8000000 in
set_option maxRecDepth 100000 in
theorem calamuslaw01_FixedReads.calls (k : Nat) (a0 : ByteArray) (a1 : Int) (r : Bool) (w : World) (h : calamuslaw01_FixedReads.f k a0 a1 = some r) (hw : Wf w) :
    Calls Tryz.prog 7 #[.string a0, .int .u8 a1] w fun e w' => e = .returned (.bool r) ∧ Below w.heap.size w w' := by
  have HB := Aside0.mk (Below.refl w.heap.size w)
  have HWF := Aside0.mk hw
  clear hw
  have H : (if (a0.size : Int) > 200 then ((calamuslaw01_works.f k).bind fun t291 => (some t291)) else ((fixed_Read.f k a0).bind fun bt292 => ((calamusref01_Read.f k a0).bind fun bt294 => (if bt292.1 = bt294.1 then (calamuslaw01_FixedReads.j0 k a0 a1 bt292.1 bt292.2 (bt292.2 != bt294.2)) else (calamuslaw01_FixedReads.j0 k a0 a1 bt292.1 bt292.2 true))))) = some r := h
  clear h
  by_cases c3 : (a0.size : Int) > 200
  · rw [if_pos c3] at H
    have c3b0 : decide (200 < (a0.size : Int)) = true := decide_eq_true c3
    have c3b1 : decide (200 < a0.size) = true := decide_eq_true (by omega)
    clear c3
    replace H := Option.bind_eq_some_iff.mp H
    obtain ⟨t291, A40, H⟩ := H
    replace H : (some t291) = some r := H
    have A4 := Aside0.mk A40
    clear A40
    obtain rfl := Option.some.inj H
    go_enter Tryz.func7, Tryz.ntmps7
    go_wp2_with (first | (go_at_call 14; (with_reducible refine (calamuslaw01_works.calls k  t291 _ A4.out (HWF.out.below (by repeat (first | (with_reducible first | exact HB.out | apply below_alloc | apply pw_below_drewN | apply below_drew1) | exact HB.out)))).mono ?_); rintro e w5 ⟨rfl, hb⟩; have n0_ := Aside0.mk (below_step (by repeat (first | (with_reducible first | exact HB.out | apply below_alloc | apply pw_below_drewN | apply below_drew1) | exact HB.out)) hb); clear HB; have HB := n0_; clear n0_; (try clear hb); (try clear hb2); (try clear hk); (try clear hi)))
    repeat (go_quiet (first | (go_at_call 14; (with_reducible refine (calamuslaw01_works.calls k  t291 _ A4.out (HWF.out.below (by repeat (first | (with_reducible first | exact HB.out | apply below_alloc | apply pw_below_drewN | apply below_drew1) | exact HB.out)))).mono ?_); rintro e w5 ⟨rfl, hb⟩; have n0_ := Aside0.mk (below_step (by repeat (first | (with_reducible first | exact HB.out | apply below_alloc | apply pw_below_drewN | apply below_drew1) | exact HB.out)) hb); clear HB; have HB := n0_; clear n0_; (try clear hb); (try clear hb2); (try clear hk); (try clear hi))); try go_wp2_with (first | (go_at_call 14; (with_reducible refine (calamuslaw01_works.calls k  t291 _ A4.out (HWF.out.below (by repeat (first | (with_reducible first | exact HB.out | apply below_alloc | apply pw_below_drewN | apply below_drew1) | exact HB.out)))).mono ?_); rintro e w5 ⟨rfl, hb⟩; have n0_ := Aside0.mk (below_step (by repeat (first | (with_reducible first | exact HB.out | apply below_alloc | apply pw_below_drewN | apply below_drew1) | exact HB.out)) hb); clear HB; have HB := n0_; clear n0_; (try clear hb); (try clear hb2); (try clear hk); (try clear hi))))
    go_ret
    exact ⟨by first | rfl | (simp [errW_none, errW_some] <;> rfl) | (simp [*, errW_none, errW_some] <;> rfl), by repeat (first | (with_reducible first | exact HB.out | apply below_alloc | apply pw_below_drewN | apply below_drew1) | exact HB.out)⟩
  · rw [if_neg c3] at H
    have c3b0 : decide (200 < (a0.size : Int)) = false := decide_eq_false c3
    have c3b1 : decide (200 < a0.size) = false := decide_eq_false (by omega)
    clear c3
    replace H := Option.bind_eq_some_iff.mp H
    obtain ⟨⟨t292, t293⟩, A60, H⟩ := H
    replace H : ((calamusref01_Read.f k a0).bind fun bt294 => (if t292 = bt294.1 then (calamuslaw01_FixedReads.j0 k a0 a1 t292 t293 (t293 != bt294.2)) else (calamuslaw01_FixedReads.j0 k a0 a1 t292 t293 true))) = some r := H
    have A6 := Aside0.mk A60
    clear A60
    replace H := Option.bind_eq_some_iff.mp H
    obtain ⟨⟨t294, t295⟩, A70, H⟩ := H
    replace H : (if t292 = t294 then (calamuslaw01_FixedReads.j0 k a0 a1 t292 t293 (t293 != t295)) else (calamuslaw01_FixedReads.j0 k a0 a1 t292 t293 true)) = some r := H
    have A7 := Aside0.mk A70
    clear A70
    have HC8 := Aside0.mk H
    clear H
    go_enter Tryz.func7, Tryz.ntmps7
    go_upto_region 5 with (first | (go_at_call 8; (with_reducible refine (fixed_Read.calls k a0 t292 t293 _ A6.out (HWF.out.below (by repeat (first | (with_reducible first | exact HB.out | apply below_alloc | apply pw_below_drewN | apply below_drew1) | exact HB.out)))).mono ?_); rintro e w9 ⟨rfl, hb⟩; have n0_ := Aside0.mk (below_step (by repeat (first | (with_reducible first | exact HB.out | apply below_alloc | apply pw_below_drewN | apply below_drew1) | exact HB.out)) hb); clear HB; have HB := n0_; clear n0_; (try clear hb); (try clear hb2); (try clear hk); (try clear hi)) | (go_at_call 23; (with_reducible refine (calamusref01_Read.calls k a0 t294 t295 _ A7.out).mono ?_); rintro e w10 ⟨rfl, hb⟩; have n0_ := Aside0.mk (below_step (by repeat (first | (with_reducible first | exact HB.out | apply below_alloc | apply pw_below_drewN | apply below_drew1) | exact HB.out)) hb); clear HB; have HB := n0_; clear n0_; (try clear hb); (try clear hb2); (try clear hk); (try clear hi)))
    repeat (go_quiet (first | (go_at_call 8; (with_reducible refine (fixed_Read.calls k a0 t292 t293 _ A6.out (HWF.out.below (by repeat (first | (with_reducible first | exact HB.out | apply below_alloc | apply pw_below_drewN | apply below_drew1) | exact HB.out)))).mono ?_); rintro e w9 ⟨rfl, hb⟩; have n0_ := Aside0.mk (below_step (by repeat (first | (with_reducible first | exact HB.out | apply below_alloc | apply pw_below_drewN | apply below_drew1) | exact HB.out)) hb); clear HB; have HB := n0_; clear n0_; (try clear hb); (try clear hb2); (try clear hk); (try clear hi)) | (go_at_call 23; (with_reducible refine (calamusref01_Read.calls k a0 t294 t295 _ A7.out).mono ?_); rintro e w10 ⟨rfl, hb⟩; have n0_ := Aside0.mk (below_step (by repeat (first | (with_reducible first | exact HB.out | apply below_alloc | apply pw_below_drewN | apply below_drew1) | exact HB.out)) hb); clear HB; have HB := n0_; clear n0_; (try clear hb); (try clear hb2); (try clear hk); (try clear hi))); go_upto_region 5 with (first | (go_at_call 8; (with_reducible refine (fixed_Read.calls k a0 t292 t293 _ A6.out (HWF.out.below (by repeat (first | (with_reducible first | exact HB.out | apply below_alloc | apply pw_below_drewN | apply below_drew1) | exact HB.out)))).mono ?_); rintro e w9 ⟨rfl, hb⟩; have n0_ := Aside0.mk (below_step (by repeat (first | (with_reducible first | exact HB.out | apply below_alloc | apply pw_below_drewN | apply below_drew1) | exact HB.out)) hb); clear HB; have HB := n0_; clear n0_; (try clear hb); (try clear hb2); (try clear hk); (try clear hi)) | (go_at_call 23; (with_reducible refine (calamusref01_Read.calls k a0 t294 t295 _ A7.out).mono ?_); rintro e w10 ⟨rfl, hb⟩; have n0_ := Aside0.mk (below_step (by repeat (first | (with_reducible first | exact HB.out | apply below_alloc | apply pw_below_drewN | apply below_drew1) | exact HB.out)) hb); clear HB; have HB := n0_; clear n0_; (try clear hb); (try clear hb2); (try clear hk); (try clear hi))))
    (try simp only [Act.put, List.setIfInBounds_toArray, List.set_cons_zero, List.set_cons_succ])
    go_cut [40] (fun v40 wc => ∃ (kq : Nat) (x40_7 : Bool), v40 = .bool x40_7 ∧ Aside0 (calamuslaw01_FixedReads.j0 kq a0 a1 t292 t293 x40_7 = some r) ∧ Aside0 (kq ≤ k) ∧ Aside0 (Below w.heap.size w wc))
    case first =>
      have H := HC8.out
      clear HC8
      by_cases c11 : t292 = t294
      · rw [if_pos c11] at H
        have c11b0 : (t292 == t294) = true := beq_iff_eq.mpr c11
        have c11b1 : (t292 != t294) = false := bne_eq_false_iff_eq.mpr c11
        clear c11
        (first | rw [c11b0] | (simp only [i64_w, i32_w]; rw [c11b0]) | skip)
        have H' := Aside0.mk H
        clear H
        go_wp2
        repeat (go_quiet (fail); try go_wp2)
        go_meet
        case rel => exact ⟨_, ((t293 != t295)), (by first | rfl | (simp; done) | (simp [*]; done)), H', ⟨by first | omega | exact Nat.le_refl _⟩, ⟨by repeat (first | (with_reducible first | exact HB.out | apply below_alloc | apply pw_below_drewN | apply below_drew1) | exact HB.out)⟩⟩
      · rw [if_neg c11] at H
        have c11b0 : (t292 == t294) = false := beq_eq_false_iff_ne.mpr c11
        have c11b1 : (t292 != t294) = true := bne_iff_ne.mpr c11
        (first | rw [c11b0] | (simp only [i64_w, i32_w]; rw [c11b0]) | skip)
        have H' := Aside0.mk H
        clear H
        go_wp2
        repeat (go_quiet (fail); try go_wp2)
        go_meet
        case rel => exact ⟨_, (true), (by first | rfl | (simp; done) | (simp [*]; done)), H', ⟨by first | omega | exact Nat.le_refl _⟩, ⟨by repeat (first | (with_reducible first | exact HB.out | apply below_alloc | apply pw_below_drewN | apply below_drew1) | exact HB.out)⟩⟩
    case rest =>
      clear HC8
      try clear c1
      try clear p2
      try clear c3
      try clear c3b0
      try clear c3b1
      try clear c7
      try clear c11
      try clear c11b0
      try clear c11b1
      obtain ⟨kq, x40_7, rfl, HA, HJ7, HB⟩ := hcut
      cases kq with
      | zero => exact absurd HA.out (by simp [calamuslaw01_FixedReads.j0])
      | succ kj7 =>
        have H := HA.out
        clear HA
        simp only [calamuslaw01_FixedReads.j0] at H
        by_cases c12 : x40_7 = true
        · subst c12
          have H1 : (some false) = some r := by rw [if_pos rfl] at H; exact H
          clear H
          have H := H1
          clear H1
          obtain rfl := Option.some.inj H
          go_wp2
          repeat (go_quiet (fail); try go_wp2)
          go_ret
          exact ⟨by first | rfl | (simp [errW_none, errW_some] <;> rfl) | (simp [*, errW_none, errW_some] <;> rfl), by repeat (first | (with_reducible first | exact HB.out | apply below_alloc | apply pw_below_drewN | apply below_drew1) | exact HB.out)⟩
        · replace c12 := Bool.eq_false_iff.mpr c12
          subst c12
          have H1 : ((calamusref01_Right.f kj7 a0).bind fun bt296 => (if bt296.2.2.2 = true then (calamuslaw01_FixedReads.j1 kj7 a1 t292 t293 bt296.1 bt296.2.1 bt296.2.2.1 (decide ((wrap64 ((bt296.2.1.length : Int) + (wrap64 ((wrap64 (Int.tmod a1 8)) * 2)))) > 36))) else (calamuslaw01_FixedReads.j1 kj7 a1 t292 t293 bt296.1 bt296.2.1 bt296.2.2.1 true))) = some r := by rw [if_neg (show ¬ (false = true) by decide)] at H; exact H
          clear H
          have H := H1
          clear H1
          replace H := Option.bind_eq_some_iff.mp H
          obtain ⟨⟨t296, t297, t298, t299⟩, A130, H⟩ := H
          replace H : (if t299 = true then (calamuslaw01_FixedReads.j1 kj7 a1 t292 t293 t296 t297 t298 (decide ((wrap64 ((t297.length : Int) + (wrap64 ((wrap64 (Int.tmod a1 8)) * 2)))) > 36))) else (calamuslaw01_FixedReads.j1 kj7 a1 t292 t293 t296 t297 t298 true)) = some r := H
          have A13 := Aside0.mk A130
          clear A130
          have HC14 := Aside0.mk H
          clear H
          go_upto_region 8 with (first | (go_at_call 24; (with_reducible refine (calamusref01_Right.calls kj7 a0 t296 t297 t298 t299 _ A13.out).mono ?_); rintro e w15 ⟨v300, rfl, ho0, hb⟩; have n0_ := Aside0.mk (Kd.R_lower ho0 (below_size (by repeat (first | (with_reducible first | exact HB.out | apply below_alloc | apply pw_below_drewN | apply below_drew1) | exact HB.out)))); have n1_ := Aside0.mk (below_step (by repeat (first | (with_reducible first | exact HB.out | apply below_alloc | apply pw_below_drewN | apply below_drew1) | exact HB.out)) hb); clear HB; have HO301 := n0_; have HB := n1_; clear n0_ n1_; (try clear hb); (try clear hb2); (try clear hk); (try clear hi); (try clear ho0)))
          repeat (go_quiet (first | (go_at_call 24; (with_reducible refine (calamusref01_Right.calls kj7 a0 t296 t297 t298 t299 _ A13.out).mono ?_); rintro e w15 ⟨v300, rfl, ho0, hb⟩; have n0_ := Aside0.mk (Kd.R_lower ho0 (below_size (by repeat (first | (with_reducible first | exact HB.out | apply below_alloc | apply pw_below_drewN | apply below_drew1) | exact HB.out)))); have n1_ := Aside0.mk (below_step (by repeat (first | (with_reducible first | exact HB.out | apply below_alloc | apply pw_below_drewN | apply below_drew1) | exact HB.out)) hb); clear HB; have HO301 := n0_; have HB := n1_; clear n0_ n1_; (try clear hb); (try clear hb2); (try clear hk); (try clear hi); (try clear ho0))); go_upto_region 8 with (first | (go_at_call 24; (with_reducible refine (calamusref01_Right.calls kj7 a0 t296 t297 t298 t299 _ A13.out).mono ?_); rintro e w15 ⟨v300, rfl, ho0, hb⟩; have n0_ := Aside0.mk (Kd.R_lower ho0 (below_size (by repeat (first | (with_reducible first | exact HB.out | apply below_alloc | apply pw_below_drewN | apply below_drew1) | exact HB.out)))); have n1_ := Aside0.mk (below_step (by repeat (first | (with_reducible first | exact HB.out | apply below_alloc | apply pw_below_drewN | apply below_drew1) | exact HB.out)) hb); clear HB; have HO301 := n0_; have HB := n1_; clear n0_ n1_; (try clear hb); (try clear hb2); (try clear hk); (try clear hi); (try clear ho0))))
          (try simp only [Act.put, List.setIfInBounds_toArray, List.set_cons_zero, List.set_cons_succ])
          go_cut [59] (fun v59 wc => ∃ (kq : Nat) (x59_13 : Bool), v59 = .bool x59_13 ∧ Aside0 (calamuslaw01_FixedReads.j1 kq a1 t292 t293 t296 t297 t298 x59_13 = some r) ∧ Aside0 (kq ≤ kj7) ∧ Aside0 (Kd.R (Kd.int .i64) 3 wc w.heap.size (fun _ => True) v300 t297) ∧ Aside0 (Below w.heap.size w wc))
          case first =>
            have H := HC14.out
            clear HC14
            by_cases c16 : t299 = true
            · subst c16
              have H1 : (calamuslaw01_FixedReads.j1 kj7 a1 t292 t293 t296 t297 t298 (decide ((wrap64 ((t297.length : Int) + (wrap64 ((wrap64 (Int.tmod a1 8)) * 2)))) > 36))) = some r := by rw [if_pos rfl] at H; exact H
              clear H
              have H := H1
              clear H1
              have H' := Aside0.mk H
              clear H
              obtain ⟨Ao17, co17, eo17⟩ := Kd.R_slice HO301.out
              subst eo17
              go_wp2
              repeat (go_quiet (fail); try go_wp2)
              go_meet
              case rel => exact ⟨_, (decide ((wrap64 ((t297.length : Int) + (wrap64 ((wrap64 (Int.tmod a1 8)) * 2)))) > 36)), (by first | rfl | (simp; done) | (simp [*]; done)), H', ⟨by have := HJ7.out; first | omega | exact Nat.le_refl _⟩, ⟨by (with_reducible repeat (first | apply Kd.R_alloc | apply Kd.R_drewN | apply Kd.R_drew)); exact HO301.out⟩, ⟨by repeat (first | (with_reducible first | exact HB.out | apply below_alloc | apply pw_below_drewN | apply below_drew1) | exact HB.out)⟩⟩
            · replace c16 := Bool.eq_false_iff.mpr c16
              subst c16
              have H1 : (calamuslaw01_FixedReads.j1 kj7 a1 t292 t293 t296 t297 t298 true) = some r := by rw [if_neg (show ¬ (false = true) by decide)] at H; exact H
              clear H
              have H := H1
              clear H1
              have H' := Aside0.mk H
              clear H
              go_wp2
              repeat (go_quiet (fail); try go_wp2)
              go_meet
              case rel => exact ⟨_, (true), (by first | rfl | (simp; done) | (simp [*]; done)), H', ⟨by have := HJ7.out; first | omega | exact Nat.le_refl _⟩, ⟨by (with_reducible repeat (first | apply Kd.R_alloc | apply Kd.R_drewN | apply Kd.R_drew)); exact HO301.out⟩, ⟨by repeat (first | (with_reducible first | exact HB.out | apply below_alloc | apply pw_below_drewN | apply below_drew1) | exact HB.out)⟩⟩
          case rest =>
            clear HC14
            try clear c1
            try clear p2
            try clear c3
            try clear c3b0
            try clear c3b1
            try clear p6
            try clear c7
            try clear c11
            try clear c11b0
            try clear c11b1
            try clear c12
            try clear c16
            try clear p2
            obtain ⟨kq, x59_13, rfl, HA, HJ13, HO_10, HB⟩ := hcut
            cases kq with
            | zero => exact absurd HA.out (by simp [calamuslaw01_FixedReads.j1])
            | succ kj13 =>
              have H := HA.out
              clear HA
              simp only [calamuslaw01_FixedReads.j1] at H
              by_cases c18 : x59_13 = true
              · subst c18
                have H1 : ((calamuslaw01_works.f kj13).bind fun t302 => (some t302)) = some r := by rw [if_pos rfl] at H; exact H
                clear H
                have H := H1
                clear H1
                replace H := Option.bind_eq_some_iff.mp H
                obtain ⟨t302, A190, H⟩ := H
                replace H : (some t302) = some r := H
                have A19 := Aside0.mk A190
                clear A190
                obtain rfl := Option.some.inj H
                go_wp2_with (first | (go_at_call 14; (with_reducible refine (calamuslaw01_works.calls kj13  t302 _ A19.out (HWF.out.below (by repeat (first | (with_reducible first | exact HB.out | apply below_alloc | apply pw_below_drewN | apply below_drew1) | exact HB.out)))).mono ?_); rintro e w20 ⟨rfl, hb⟩; have n0_ := Aside0.mk (Kd.R_below (by (with_reducible repeat (first | apply Kd.R_alloc | apply Kd.R_drewN | apply Kd.R_drew)); exact HO_10.out) hb); have n1_ := Aside0.mk (below_step (by repeat (first | (with_reducible first | exact HB.out | apply below_alloc | apply pw_below_drewN | apply below_drew1) | exact HB.out)) hb); clear HO_10; clear HB; have HO_10 := n0_; have HB := n1_; clear n0_ n1_; (try clear hb); (try clear hb2); (try clear hk); (try clear hi)))
                repeat (go_quiet (first | (go_at_call 14; (with_reducible refine (calamuslaw01_works.calls kj13  t302 _ A19.out (HWF.out.below (by repeat (first | (with_reducible first | exact HB.out | apply below_alloc | apply pw_below_drewN | apply below_drew1) | exact HB.out)))).mono ?_); rintro e w20 ⟨rfl, hb⟩; have n0_ := Aside0.mk (Kd.R_below (by (with_reducible repeat (first | apply Kd.R_alloc | apply Kd.R_drewN | apply Kd.R_drew)); exact HO_10.out) hb); have n1_ := Aside0.mk (below_step (by repeat (first | (with_reducible first | exact HB.out | apply below_alloc | apply pw_below_drewN | apply below_drew1) | exact HB.out)) hb); clear HO_10; clear HB; have HO_10 := n0_; have HB := n1_; clear n0_ n1_; (try clear hb); (try clear hb2); (try clear hk); (try clear hi))); try go_wp2_with (first | (go_at_call 14; (with_reducible refine (calamuslaw01_works.calls kj13  t302 _ A19.out (HWF.out.below (by repeat (first | (with_reducible first | exact HB.out | apply below_alloc | apply pw_below_drewN | apply below_drew1) | exact HB.out)))).mono ?_); rintro e w20 ⟨rfl, hb⟩; have n0_ := Aside0.mk (Kd.R_below (by (with_reducible repeat (first | apply Kd.R_alloc | apply Kd.R_drewN | apply Kd.R_drew)); exact HO_10.out) hb); have n1_ := Aside0.mk (below_step (by repeat (first | (with_reducible first | exact HB.out | apply below_alloc | apply pw_below_drewN | apply below_drew1) | exact HB.out)) hb); clear HO_10; clear HB; have HO_10 := n0_; have HB := n1_; clear n0_ n1_; (try clear hb); (try clear hb2); (try clear hk); (try clear hi))))
                go_ret
                exact ⟨by first | rfl | (simp [errW_none, errW_some] <;> rfl) | (simp [*, errW_none, errW_some] <;> rfl), by repeat (first | (with_reducible first | exact HB.out | apply below_alloc | apply pw_below_drewN | apply below_drew1) | exact HB.out)⟩
              · replace c18 := Bool.eq_false_iff.mpr c18
                subst c18
                have H1 : (if t296 = true then (calamuslaw01_FixedReads.j2 kj13 a1 t292 t293 t297 t298 (⟨#[45]⟩ : ByteArray)) else (calamuslaw01_FixedReads.j2 kj13 a1 t292 t293 t297 t298 (⟨#[]⟩ : ByteArray))) = some r := by rw [if_neg (show ¬ (false = true) by decide)] at H; exact H
                clear H
                have H := H1
                clear H1
                have HC21 := Aside0.mk H
                clear H
                go_upto_if 61 with (fail)
                repeat (go_quiet (fail); go_upto_if 61 with (fail))
                go_cut [13] (fun v13 wc => ∃ (kq : Nat) (x13_20 : ByteArray), v13 = .string x13_20 ∧ Aside0 (calamuslaw01_FixedReads.j2 kq a1 t292 t293 t297 t298 x13_20 = some r) ∧ Aside0 (kq ≤ kj13) ∧ Aside0 (Kd.R (Kd.int .i64) 3 wc w.heap.size (fun _ => True) v300 t297) ∧ Aside0 (Below w.heap.size w wc))
                case first =>
                  have H := HC21.out
                  clear HC21
                  by_cases c22 : t296 = true
                  · subst c22
                    have H1 : (calamuslaw01_FixedReads.j2 kj13 a1 t292 t293 t297 t298 (⟨#[45]⟩ : ByteArray)) = some r := by rw [if_pos rfl] at H; exact H
                    clear H
                    have H := H1
                    clear H1
                    have H' := Aside0.mk H
                    clear H
                    go_wp2
                    repeat (go_quiet (fail); try go_wp2)
                    go_meet
                    case rel => exact ⟨_, ((⟨#[45]⟩ : ByteArray)), (by first | rfl | (simp; done) | (simp [*]; done)), H', ⟨by have := HJ7.out; have := HJ13.out; first | omega | exact Nat.le_refl _⟩, ⟨by (with_reducible repeat (first | apply Kd.R_alloc | apply Kd.R_drewN | apply Kd.R_drew)); exact HO_10.out⟩, ⟨by repeat (first | (with_reducible first | exact HB.out | apply below_alloc | apply pw_below_drewN | apply below_drew1) | exact HB.out)⟩⟩
                  · replace c22 := Bool.eq_false_iff.mpr c22
                    subst c22
                    have H1 : (calamuslaw01_FixedReads.j2 kj13 a1 t292 t293 t297 t298 (⟨#[]⟩ : ByteArray)) = some r := by rw [if_neg (show ¬ (false = true) by decide)] at H; exact H
                    clear H
                    have H := H1
                    clear H1
                    have H' := Aside0.mk H
                    clear H
                    go_wp2
                    repeat (go_quiet (fail); try go_wp2)
                    go_meet
                    case rel => exact ⟨_, ((⟨#[]⟩ : ByteArray)), (by first | rfl | (simp; done) | (simp [*]; done)), H', ⟨by have := HJ7.out; have := HJ13.out; first | omega | exact Nat.le_refl _⟩, ⟨by (with_reducible repeat (first | apply Kd.R_alloc | apply Kd.R_drewN | apply Kd.R_drew)); exact HO_10.out⟩, ⟨by repeat (first | (with_reducible first | exact HB.out | apply below_alloc | apply pw_below_drewN | apply below_drew1) | exact HB.out)⟩⟩
                case rest =>
                  clear HC21
                  try clear c1
                  try clear c2
                  try clear p2
                  try clear c3
                  try clear c3b0
                  try clear c3b1
                  try clear p6
                  try clear c7
                  try clear c11
                  try clear c11b0
                  try clear c11b1
                  try clear c12
                  try clear c16
                  try clear c18
                  try clear c22
                  try clear p2
                  try clear p6
                  obtain ⟨kq, x13_20, rfl, HA, HJ20, HO_10, HB⟩ := hcut
                  cases kq with
                  | zero => exact absurd HA.out (by simp [calamuslaw01_FixedReads.j2])
                  | succ kj20 =>
                    have H := HA.out
                    clear HA
                    simp only [calamuslaw01_FixedReads.j2] at H
                    have H' := Aside0.mk H
                    clear H
                    go_wp2
                    repeat (go_quiet (fail); try go_wp2)
                    go_loopg [13, 14] kj20 (fun kq v13 v14 w' => ∃ (x13_4 : ByteArray) (x14_4 : Int), v13 = .string x13_4 ∧ v14 = .int .u8 x14_4 ∧ Aside0 (calamuslaw01_FixedReads.l0 kq a1 t292 t293 t297 t298 x13_4 x14_4 = some r) ∧ Aside0 (kq ≤ kj20) ∧ Aside0 (Kd.R (Kd.int .i64) 3 w' w.heap.size (fun _ => True) v300 t297) ∧ Aside0 (Below w.heap.size w w'))
                    case atStart => exact ⟨(x13_20), (0), (by first | rfl | (simp; done) | (simp [*]; done)), (by first | rfl | (simp; done) | (simp [*]; done)), H', ⟨Nat.le_refl _⟩, ⟨by (with_reducible repeat (first | apply Kd.R_alloc | apply Kd.R_drewN | apply Kd.R_drew)); exact HO_10.out⟩, ⟨by repeat (first | (with_reducible first | exact HB.out | apply below_alloc | apply pw_below_drewN | apply below_drew1) | exact HB.out)⟩⟩
                    case round =>
                      clear H'
                      try clear c1
                      try clear c2
                      try clear p2
                      try clear c3
                      try clear c3b0
                      try clear c3b1
                      try clear p6
                      try clear c7
                      try clear c11
                      try clear c11b0
                      try clear c11b1
                      try clear c12
                      try clear c16
                      try clear c18
                      try clear c22
                      try clear p2
                      try clear p6
                      obtain ⟨x13_4, x14_4, rfl, rfl, HA, HK4, HO_10, HB⟩ := hrel
                      cases gk with
                      | zero => exact absurd HA.out (by simp [calamuslaw01_FixedReads.l0])
                      | succ k4 =>
                        have H := HA.out
                        clear HA
                        simp only [calamuslaw01_FixedReads.l0] at H
                        by_cases c23 : x14_4 < (Int.tmod a1 8)
                        · rw [if_pos c23] at H
                          have c23b0 : decide (x14_4 < (Int.tmod a1 8)) = true := decide_eq_true c23
                          clear c23
                          by_cases c24 : x13_4.size + 1 ≤ 9223372036854775807
                          · rw [if_pos c24] at H
                            have c24b0 := eq_true c24
                            have c24b1 : decide (x13_4.size + 1 ≤ 9223372036854775807) = true := decide_eq_true c24
                            try have c24b2 : (9223372036854775807 < x13_4.size + 1) = False := eq_false (Nat.not_lt.2 c24)
                            have H' := Aside0.mk H
                            clear H
                            go_wp2
                            repeat (go_quiet (fail); try go_wp2)
                            go_roundg k4
                            case measure => have := HJ7.out; have := HJ13.out; have := HJ20.out; have := HK4.out; omega
                            case rel => exact ⟨(x13_4 ++ (⟨#[48]⟩ : ByteArray)), ((x14_4 + 1) % 256), (by first | rfl | (simp; done) | (simp [*]; done)), (by first | rfl | (simp; done) | (simp [*]; done)), H', ⟨by have := HJ7.out; have := HJ13.out; have := HJ20.out; have := HK4.out; omega⟩, ⟨by (with_reducible repeat (first | apply Kd.R_alloc | apply Kd.R_drewN | apply Kd.R_drew)); exact HO_10.out⟩, ⟨by repeat (first | (with_reducible first | exact HB.out | apply below_alloc | apply pw_below_drewN | apply below_drew1) | exact HB.out)⟩⟩
                          · rw [if_neg c24] at H
                            exact absurd H (by simp)
                        · rw [if_neg c23] at H
                          have c23b0 : decide (x14_4 < (Int.tmod a1 8)) = false := decide_eq_false c23
                          clear c23
                          have H' := Aside0.mk H
                          clear H
                          go_wp2
                          repeat (go_quiet (fail); try go_wp2)
                          go_loopg [13, 15] k4 (fun kq v13 v15 w' => ∃ (x13_5 : ByteArray) (x15_5 : Int), v13 = .string x13_5 ∧ v15 = .int .i64 x15_5 ∧ Aside0 (calamuslaw01_FixedReads.l1 kq a1 t292 t293 t297 t298 x13_5 x15_5 = some r) ∧ Aside0 (kq ≤ k4) ∧ Aside0 (Kd.R (Kd.int .i64) 3 w' w.heap.size (fun _ => True) v300 t297) ∧ Aside0 (Below w.heap.size w w'))
                          case atStart => exact ⟨(x13_4), (0), (by first | rfl | (simp; done) | (simp [*]; done)), (by first | rfl | (simp; done) | (simp [*]; done)), H', ⟨Nat.le_refl _⟩, ⟨by (with_reducible repeat (first | apply Kd.R_alloc | apply Kd.R_drewN | apply Kd.R_drew)); exact HO_10.out⟩, ⟨by repeat (first | (with_reducible first | exact HB.out | apply below_alloc | apply pw_below_drewN | apply below_drew1) | exact HB.out)⟩⟩
                          case round =>
                            clear H'
                            try clear c1
                            try clear c2
                            try clear p2
                            try clear c3
                            try clear c3b0
                            try clear c3b1
                            try clear p6
                            try clear c7
                            try clear c11
                            try clear c11b0
                            try clear c11b1
                            try clear c12
                            try clear c16
                            try clear c18
                            try clear c22
                            try clear c23
                            try clear c23b0
                            try clear c24
                            try clear c24b0
                            try clear c24b1
                            try clear c24b2
                            try clear p2
                            try clear p6
                            obtain ⟨x13_5, x15_5, rfl, rfl, HA, HK5, HO_10, HB⟩ := hrel
                            cases gk with
                            | zero => exact absurd HA.out (by simp [calamuslaw01_FixedReads.l1])
                            | succ k5 =>
                              have H := HA.out
                              clear HA
                              simp only [calamuslaw01_FixedReads.l1] at H
                              by_cases c25 : x15_5 < (t297.length : Int)
                              · rw [if_pos c25] at H
                                have c25b0 : decide (x15_5 < (t297.length : Int)) = true := decide_eq_true c25
                                clear c25
                                by_cases c26 : x15_5 = (wrap64 ((t297.length : Int) - t298))
                                · rw [if_pos c26] at H
                                  have c26b0 : (x15_5 == (wrap64 ((t297.length : Int) - t298))) = true := beq_iff_eq.mpr c26
                                  have c26b1 : (x15_5 != (wrap64 ((t297.length : Int) - t298))) = false := bne_eq_false_iff_eq.mpr c26
                                  clear c26
                                  by_cases c27 : x13_5.size + 1 ≤ 9223372036854775807
                                  · rw [if_pos c27] at H
                                    have c27b0 := eq_true c27
                                    have c27b1 : decide (x13_5.size + 1 ≤ 9223372036854775807) = true := decide_eq_true c27
                                    try have c27b2 : (9223372036854775807 < x13_5.size + 1) = False := eq_false (Nat.not_lt.2 c27)
                                    by_cases c28 : 0 ≤ x15_5
                                    · rw [if_pos c28] at H
                                      have c28b0 : decide (0 ≤ x15_5) = true := decide_eq_true c28
                                      clear c28
                                      by_cases c29 : 0 ≤ (rd t297 x15_5)
                                      · rw [if_pos c29] at H
                                        have c29b0 := eq_true c29
                                        have c29b1 : decide (0 ≤ (rd t297 x15_5)) = true := decide_eq_true c29
                                        clear c29
                                        by_cases c30 : (rd t297 x15_5) ≤ (wrap64 ((rd t297 x15_5) + 1))
                                        · rw [if_pos c30] at H
                                          have c30b0 := eq_true c30
                                          have c30b1 : decide ((rd t297 x15_5) ≤ (wrap64 ((rd t297 x15_5) + 1))) = true := decide_eq_true c30
                                          by_cases c31 : (wrap64 ((rd t297 x15_5) + 1)) ≤ 10
                                          · rw [if_pos c31] at H
                                            have c31b0 := eq_true c31
                                            have c31b1 : decide ((wrap64 ((rd t297 x15_5) + 1)) ≤ 10) = true := decide_eq_true c31
                                            by_cases c32 : (x13_5 ++ (⟨#[46]⟩ : ByteArray)).size + ((⟨#[48, 49, 50, 51, 52, 53, 54, 55, 56, 57]⟩ : ByteArray).extract ((rd t297 x15_5) : Int).toNat ((wrap64 ((rd t297 x15_5) + 1)) : Int).toNat).size ≤ 9223372036854775807
                                            · rw [if_pos c32] at H
                                              have c32b0 := eq_true c32
                                              have c32b1 : decide ((x13_5 ++ (⟨#[46]⟩ : ByteArray)).size + ((⟨#[48, 49, 50, 51, 52, 53, 54, 55, 56, 57]⟩ : ByteArray).extract ((rd t297 x15_5) : Int).toNat ((wrap64 ((rd t297 x15_5) + 1)) : Int).toNat).size ≤ 9223372036854775807) = true := decide_eq_true c32
                                              try have c32b2 : (9223372036854775807 < (x13_5 ++ (⟨#[46]⟩ : ByteArray)).size + ((⟨#[48, 49, 50, 51, 52, 53, 54, 55, 56, 57]⟩ : ByteArray).extract ((rd t297 x15_5) : Int).toNat ((wrap64 ((rd t297 x15_5) + 1)) : Int).toNat).size) = False := eq_false (Nat.not_lt.2 c32)
                                              have H' := Aside0.mk H
                                              clear H
                                              obtain ⟨Ao33, co33, eo33⟩ := Kd.R_slice HO_10.out
                                              subst eo33
                                              have p303 : 0 ≤ (x15_5 : Int) := of_decide_eq_true (by first | (with_reducible assumption) | assumption)
                                              have q303 : x15_5 < (t297.length : Int) := of_decide_eq_true (by first | (with_reducible assumption) | assumption)
                                              obtain ⟨ad303, e303, hx303_0⟩ := Kd.at_int (Kd.R_reads' HO_10.out).2.2 x15_5 p303 q303
                                              cases e303
                                              replace p303 := eq_true p303
                                              replace q303 := eq_true q303
                                              have p304 : 0 ≤ (x15_5 : Int) := of_decide_eq_true (by first | (with_reducible assumption) | assumption)
                                              have q304 : x15_5 < (t297.length : Int) := of_decide_eq_true (by first | (with_reducible assumption) | assumption)
                                              obtain ⟨ad304, e304, hx304_0⟩ := Kd.at_int (Kd.R_reads' HO_10.out).2.2 x15_5 p304 q304
                                              obtain rfl : ad303 = ad304 := (by injection e304)
                                              replace p304 := eq_true p304
                                              replace q304 := eq_true q304
                                              go_wp2
                                              repeat (go_quiet (fail); try go_wp2)
                                              go_roundg k5
                                              case measure => have := HJ7.out; have := HJ13.out; have := HJ20.out; have := HK4.out; have := HK5.out; omega
                                              case rel => exact ⟨((x13_5 ++ (⟨#[46]⟩ : ByteArray)) ++ ((⟨#[48, 49, 50, 51, 52, 53, 54, 55, 56, 57]⟩ : ByteArray).extract ((rd t297 x15_5) : Int).toNat ((wrap64 ((rd t297 x15_5) + 1)) : Int).toNat)), (wrap64 (x15_5 + 1)), (by first | rfl | (simp; done) | (simp [*]; done)), (by first | rfl | (simp; done) | (simp [*]; done)), H', ⟨by have := HJ7.out; have := HJ13.out; have := HJ20.out; have := HK4.out; have := HK5.out; omega⟩, ⟨by (with_reducible repeat (first | apply Kd.R_alloc | apply Kd.R_drewN | apply Kd.R_drew)); exact HO_10.out⟩, ⟨by repeat (first | (with_reducible first | exact HB.out | apply below_alloc | apply pw_below_drewN | apply below_drew1) | exact HB.out)⟩⟩
                                            · rw [if_neg c32] at H
                                              exact absurd H (by simp)
                                          · rw [if_neg c31] at H
                                            exact absurd H (by simp)
                                        · rw [if_neg c30] at H
                                          exact absurd H (by simp)
                                      · rw [if_neg c29] at H
                                        exact absurd H (by simp)
                                    · rw [if_neg c28] at H
                                      exact absurd H (by simp)
                                  · rw [if_neg c27] at H
                                    exact absurd H (by simp)
                                · rw [if_neg c26] at H
                                  have c26b0 : (x15_5 == (wrap64 ((t297.length : Int) - t298))) = false := beq_eq_false_iff_ne.mpr c26
                                  have c26b1 : (x15_5 != (wrap64 ((t297.length : Int) - t298))) = true := bne_iff_ne.mpr c26
                                  by_cases c34 : 0 ≤ x15_5
                                  · rw [if_pos c34] at H
                                    have c34b0 : decide (0 ≤ x15_5) = true := decide_eq_true c34
                                    clear c34
                                    by_cases c35 : 0 ≤ (rd t297 x15_5)
                                    · rw [if_pos c35] at H
                                      have c35b0 := eq_true c35
                                      have c35b1 : decide (0 ≤ (rd t297 x15_5)) = true := decide_eq_true c35
                                      clear c35
                                      by_cases c36 : (rd t297 x15_5) ≤ (wrap64 ((rd t297 x15_5) + 1))
                                      · rw [if_pos c36] at H
                                        have c36b0 := eq_true c36
                                        have c36b1 : decide ((rd t297 x15_5) ≤ (wrap64 ((rd t297 x15_5) + 1))) = true := decide_eq_true c36
                                        by_cases c37 : (wrap64 ((rd t297 x15_5) + 1)) ≤ 10
                                        · rw [if_pos c37] at H
                                          have c37b0 := eq_true c37
                                          have c37b1 : decide ((wrap64 ((rd t297 x15_5) + 1)) ≤ 10) = true := decide_eq_true c37
                                          by_cases c38 : x13_5.size + ((⟨#[48, 49, 50, 51, 52, 53, 54, 55, 56, 57]⟩ : ByteArray).extract ((rd t297 x15_5) : Int).toNat ((wrap64 ((rd t297 x15_5) + 1)) : Int).toNat).size ≤ 9223372036854775807
                                          · rw [if_pos c38] at H
                                            have c38b0 := eq_true c38
                                            have c38b1 : decide (x13_5.size + ((⟨#[48, 49, 50, 51, 52, 53, 54, 55, 56, 57]⟩ : ByteArray).extract ((rd t297 x15_5) : Int).toNat ((wrap64 ((rd t297 x15_5) + 1)) : Int).toNat).size ≤ 9223372036854775807) = true := decide_eq_true c38
                                            try have c38b2 : (9223372036854775807 < x13_5.size + ((⟨#[48, 49, 50, 51, 52, 53, 54, 55, 56, 57]⟩ : ByteArray).extract ((rd t297 x15_5) : Int).toNat ((wrap64 ((rd t297 x15_5) + 1)) : Int).toNat).size) = False := eq_false (Nat.not_lt.2 c38)
                                            have H' := Aside0.mk H
                                            clear H
                                            obtain ⟨Ao39, co39, eo39⟩ := Kd.R_slice HO_10.out
                                            subst eo39
                                            have p305 : 0 ≤ (x15_5 : Int) := of_decide_eq_true (by first | (with_reducible assumption) | assumption)
                                            have q305 : x15_5 < (t297.length : Int) := of_decide_eq_true (by first | (with_reducible assumption) | assumption)
                                            obtain ⟨ad305, e305, hx305_0⟩ := Kd.at_int (Kd.R_reads' HO_10.out).2.2 x15_5 p305 q305
                                            cases e305
                                            replace p305 := eq_true p305
                                            replace q305 := eq_true q305
                                            have p306 : 0 ≤ (x15_5 : Int) := of_decide_eq_true (by first | (with_reducible assumption) | assumption)
                                            have q306 : x15_5 < (t297.length : Int) := of_decide_eq_true (by first | (with_reducible assumption) | assumption)
                                            obtain ⟨ad306, e306, hx306_0⟩ := Kd.at_int (Kd.R_reads' HO_10.out).2.2 x15_5 p306 q306
                                            obtain rfl : ad305 = ad306 := (by injection e306)
                                            replace p306 := eq_true p306
                                            replace q306 := eq_true q306
                                            go_wp2
                                            repeat (go_quiet (fail); try go_wp2)
                                            go_roundg k5
                                            case measure => have := HJ7.out; have := HJ13.out; have := HJ20.out; have := HK4.out; have := HK5.out; omega
                                            case rel => exact ⟨(x13_5 ++ ((⟨#[48, 49, 50, 51, 52, 53, 54, 55, 56, 57]⟩ : ByteArray).extract ((rd t297 x15_5) : Int).toNat ((wrap64 ((rd t297 x15_5) + 1)) : Int).toNat)), (wrap64 (x15_5 + 1)), (by first | rfl | (simp; done) | (simp [*]; done)), (by first | rfl | (simp; done) | (simp [*]; done)), H', ⟨by have := HJ7.out; have := HJ13.out; have := HJ20.out; have := HK4.out; have := HK5.out; omega⟩, ⟨by (with_reducible repeat (first | apply Kd.R_alloc | apply Kd.R_drewN | apply Kd.R_drew)); exact HO_10.out⟩, ⟨by repeat (first | (with_reducible first | exact HB.out | apply below_alloc | apply pw_below_drewN | apply below_drew1) | exact HB.out)⟩⟩
                                          · rw [if_neg c38] at H
                                            exact absurd H (by simp)
                                        · rw [if_neg c37] at H
                                          exact absurd H (by simp)
                                      · rw [if_neg c36] at H
                                        exact absurd H (by simp)
                                    · rw [if_neg c35] at H
                                      exact absurd H (by simp)
                                  · rw [if_neg c34] at H
                                    exact absurd H (by simp)
                              · rw [if_neg c25] at H
                                have c25b0 : decide (x15_5 < (t297.length : Int)) = false := decide_eq_false c25
                                clear c25
                                have HC40 := Aside0.mk H
                                clear H
                                obtain ⟨Ao41, co41, eo41⟩ := Kd.R_slice HO_10.out
                                subst eo41
                                go_upto_region 23 with (fail)
                                repeat (go_quiet (fail); go_upto_region 23 with (fail))
                                go_cut [102] (fun v102 wc => ∃ (kq : Nat) (x102_39 : Bool), v102 = .bool x102_39 ∧ Aside0 (calamuslaw01_FixedReads.j5 kq a1 t292 t293 x13_5 x102_39 = some r) ∧ Aside0 (kq ≤ k5) ∧ Aside0 (Below w.heap.size w wc))
                                case first =>
                                  have H := HC40.out
                                  clear HC40
                                  by_cases c42 : t298 = 0
                                  · rw [if_pos c42] at H
                                    have c42b0 : (t298 == 0) = true := beq_iff_eq.mpr c42
                                    have c42b1 : (t298 != 0) = false := bne_eq_false_iff_eq.mpr c42
                                    clear c42
                                    (first | rw [c42b0] | (simp only [i64_w, i32_w]; rw [c42b0]) | skip)
                                    have H' := Aside0.mk H
                                    clear H
                                    go_wp2
                                    repeat (go_quiet (fail); try go_wp2)
                                    go_meet
                                    case rel => exact ⟨_, (decide ((Int.tmod a1 8) > 0)), (by first | rfl | (simp; done) | (simp [*]; done)), H', ⟨by have := HJ7.out; have := HJ13.out; have := HJ20.out; have := HK4.out; have := HK5.out; first | omega | exact Nat.le_refl _⟩, ⟨by repeat (first | (with_reducible first | exact HB.out | apply below_alloc | apply pw_below_drewN | apply below_drew1) | exact HB.out)⟩⟩
                                  · rw [if_neg c42] at H
                                    have c42b0 : (t298 == 0) = false := beq_eq_false_iff_ne.mpr c42
                                    have c42b1 : (t298 != 0) = true := bne_iff_ne.mpr c42
                                    (first | rw [c42b0] | (simp only [i64_w, i32_w]; rw [c42b0]) | skip)
                                    have H' := Aside0.mk H
                                    clear H
                                    go_wp2
                                    repeat (go_quiet (fail); try go_wp2)
                                    go_meet
                                    case rel => exact ⟨_, (false), (by first | rfl | (simp; done) | (simp [*]; done)), H', ⟨by have := HJ7.out; have := HJ13.out; have := HJ20.out; have := HK4.out; have := HK5.out; first | omega | exact Nat.le_refl _⟩, ⟨by repeat (first | (with_reducible first | exact HB.out | apply below_alloc | apply pw_below_drewN | apply below_drew1) | exact HB.out)⟩⟩
                                case rest =>
                                  clear HC40
                                  try clear c1
                                  try clear c2
                                  try clear p2
                                  try clear c3
                                  try clear c3b0
                                  try clear c3b1
                                  try clear p3
                                  try clear q3
                                  try clear hx3
                                  try clear c4
                                  try clear p6
                                  try clear c7
                                  try clear c11
                                  try clear c11b0
                                  try clear c11b1
                                  try clear c12
                                  try clear c16
                                  try clear c18
                                  try clear c22
                                  try clear c23
                                  try clear c23b0
                                  try clear c24
                                  try clear c24b0
                                  try clear c24b1
                                  try clear c24b2
                                  try clear c25
                                  try clear c25b0
                                  try clear c26
                                  try clear c26b0
                                  try clear c26b1
                                  try clear c27
                                  try clear c27b0
                                  try clear c27b1
                                  try clear c27b2
                                  try clear c28
                                  try clear c28b0
                                  try clear c29
                                  try clear c29b0
                                  try clear c29b1
                                  try clear c30
                                  try clear c30b0
                                  try clear c30b1
                                  try clear p30
                                  try clear q30
                                  try clear hx30
                                  try clear c31
                                  try clear c31b0
                                  try clear c31b1
                                  try clear c32
                                  try clear c32b0
                                  try clear c32b1
                                  try clear c32b2
                                  try clear c34
                                  try clear c34b0
                                  try clear c35
                                  try clear c35b0
                                  try clear c35b1
                                  try clear c36
                                  try clear c36b0
                                  try clear c36b1
                                  try clear c37
                                  try clear c37b0
                                  try clear c37b1
                                  try clear c38
                                  try clear c38b0
                                  try clear c38b1
                                  try clear c38b2
                                  try clear c42
                                  try clear c42b0
                                  try clear c42b1
                                  try clear hx303_0
                                  try clear hx304_0
                                  try clear hx305_0
                                  try clear hx306_0
                                  try clear p2
                                  try clear p303
                                  try clear p304
                                  try clear p305
                                  try clear p306
                                  try clear p6
                                  try clear q303
                                  try clear q304
                                  try clear q305
                                  try clear q306
                                  obtain ⟨kq, x102_39, rfl, HA, HJ39, HB⟩ := hcut
                                  cases kq with
                                  | zero => exact absurd HA.out (by simp [calamuslaw01_FixedReads.j5])
                                  | succ kj39 =>
                                    have H := HA.out
                                    clear HA
                                    simp only [calamuslaw01_FixedReads.j5] at H
                                    have HC43 := Aside0.mk H
                                    clear H
                                    go_upto_if 102 with (fail)
                                    repeat (go_quiet (fail); go_upto_if 102 with (fail))
                                    go_cut [13] (fun v13 wc => ∃ (kq : Nat) (x13_42 : ByteArray), v13 = .string x13_42 ∧ Aside0 (calamuslaw01_FixedReads.j6 kq a1 t292 t293 x13_42 = some r) ∧ Aside0 (kq ≤ kj39) ∧ Aside0 (Below w.heap.size w wc))
                                    case first =>
                                      have H := HC43.out
                                      clear HC43
                                      by_cases c44 : x102_39 = true
                                      · subst c44
                                        have H1 : (if x13_5.size + 1 ≤ 9223372036854775807 then (calamuslaw01_FixedReads.j6 kj39 a1 t292 t293 (x13_5 ++ (⟨#[46]⟩ : ByteArray))) else (none)) = some r := by rw [if_pos rfl] at H; exact H
                                        clear H
                                        have H := H1
                                        clear H1
                                        by_cases c45 : x13_5.size + 1 ≤ 9223372036854775807
                                        · rw [if_pos c45] at H
                                          have c45b0 := eq_true c45
                                          have c45b1 : decide (x13_5.size + 1 ≤ 9223372036854775807) = true := decide_eq_true c45
                                          try have c45b2 : (9223372036854775807 < x13_5.size + 1) = False := eq_false (Nat.not_lt.2 c45)
                                          have H' := Aside0.mk H
                                          clear H
                                          go_wp2
                                          repeat (go_quiet (fail); try go_wp2)
                                          go_meet
                                          case rel => exact ⟨_, (x13_5 ++ (⟨#[46]⟩ : ByteArray)), (by first | rfl | (simp; done) | (simp [*]; done)), H', ⟨by have := HJ7.out; have := HJ13.out; have := HJ20.out; have := HK4.out; have := HK5.out; have := HJ39.out; first | omega | exact Nat.le_refl _⟩, ⟨by repeat (first | (with_reducible first | exact HB.out | apply below_alloc | apply pw_below_drewN | apply below_drew1) | exact HB.out)⟩⟩
                                        · rw [if_neg c45] at H
                                          exact absurd H (by simp)
                                      · replace c44 := Bool.eq_false_iff.mpr c44
                                        subst c44
                                        have H1 : (calamuslaw01_FixedReads.j6 kj39 a1 t292 t293 x13_5) = some r := by rw [if_neg (show ¬ (false = true) by decide)] at H; exact H
                                        clear H
                                        have H := H1
                                        clear H1
                                        have H' := Aside0.mk H
                                        clear H
                                        go_wp2
                                        repeat (go_quiet (fail); try go_wp2)
                                        go_meet
                                        case rel => exact ⟨_, (x13_5), (by first | rfl | (simp; done) | (simp [*]; done)), H', ⟨by have := HJ7.out; have := HJ13.out; have := HJ20.out; have := HK4.out; have := HK5.out; have := HJ39.out; first | omega | exact Nat.le_refl _⟩, ⟨by repeat (first | (with_reducible first | exact HB.out | apply below_alloc | apply pw_below_drewN | apply below_drew1) | exact HB.out)⟩⟩
                                    case rest =>
                                      clear HC43
                                      try clear c1
                                      try clear c2
                                      try clear p2
                                      try clear c3
                                      try clear c3b0
                                      try clear c3b1
                                      try clear p3
                                      try clear q3
                                      try clear hx3
                                      try clear c4
                                      try clear p6
                                      try clear c7
                                      try clear c11
                                      try clear c11b0
                                      try clear c11b1
                                      try clear c12
                                      try clear c16
                                      try clear c18
                                      try clear c22
                                      try clear c23
                                      try clear c23b0
                                      try clear c24
                                      try clear c24b0
                                      try clear c24b1
                                      try clear c24b2
                                      try clear c25
                                      try clear c25b0
                                      try clear c26
                                      try clear c26b0
                                      try clear c26b1
                                      try clear c27
                                      try clear c27b0
                                      try clear c27b1
                                      try clear c27b2
                                      try clear c28
                                      try clear c28b0
                                      try clear c29
                                      try clear c29b0
                                      try clear c29b1
                                      try clear c30
                                      try clear c30b0
                                      try clear c30b1
                                      try clear p30
                                      try clear q30
                                      try clear hx30
                                      try clear c31
                                      try clear c31b0
                                      try clear c31b1
                                      try clear c32
                                      try clear c32b0
                                      try clear c32b1
                                      try clear c32b2
                                      try clear c34
                                      try clear c34b0
                                      try clear c35
                                      try clear c35b0
                                      try clear c35b1
                                      try clear c36
                                      try clear c36b0
                                      try clear c36b1
                                      try clear c37
                                      try clear c37b0
                                      try clear c37b1
                                      try clear c38
                                      try clear c38b0
                                      try clear c38b1
                                      try clear c38b2
                                      try clear c42
                                      try clear c42b0
                                      try clear c42b1
                                      try clear c44
                                      try clear c45
                                      try clear c45b0
                                      try clear c45b1
                                      try clear c45b2
                                      try clear hx303_0
                                      try clear hx304_0
                                      try clear hx305_0
                                      try clear hx306_0
                                      try clear p2
                                      try clear p3
                                      try clear p30
                                      try clear p303
                                      try clear p304
                                      try clear p305
                                      try clear p306
                                      try clear p6
                                      try clear q3
                                      try clear q30
                                      try clear q303
                                      try clear q304
                                      try clear q305
                                      try clear q306
                                      obtain ⟨kq, x13_42, rfl, HA, HJ42, HB⟩ := hcut
                                      cases kq with
                                      | zero => exact absurd HA.out (by simp [calamuslaw01_FixedReads.j6])
                                      | succ kj42 =>
                                        have H := HA.out
                                        clear HA
                                        simp only [calamuslaw01_FixedReads.j6] at H
                                        have H' := Aside0.mk H
                                        clear H
                                        go_wp2
                                        repeat (go_quiet (fail); try go_wp2)
                                        go_loopg [13, 16] kj42 (fun kq v13 v16 w' => ∃ (x13_8 : ByteArray) (x16_8 : Int), v13 = .string x13_8 ∧ v16 = .int .u8 x16_8 ∧ Aside0 (calamuslaw01_FixedReads.l2 kq a1 t292 t293 x13_8 x16_8 = some r) ∧ Aside0 (kq ≤ kj42) ∧ Aside0 (Below w.heap.size w w'))
                                        case atStart => exact ⟨(x13_42), (0), (by first | rfl | (simp; done) | (simp [*]; done)), (by first | rfl | (simp; done) | (simp [*]; done)), H', ⟨Nat.le_refl _⟩, ⟨by repeat (first | (with_reducible first | exact HB.out | apply below_alloc | apply pw_below_drewN | apply below_drew1) | exact HB.out)⟩⟩
                                        case round =>
                                          clear H'
                                          try clear c1
                                          try clear c2
                                          try clear p2
                                          try clear c3
                                          try clear c3b0
                                          try clear c3b1
                                          try clear p3
                                          try clear q3
                                          try clear hx3
                                          try clear c4
                                          try clear p6
                                          try clear c7
                                          try clear c11
                                          try clear c11b0
                                          try clear c11b1
                                          try clear c12
                                          try clear c16
                                          try clear c18
                                          try clear c22
                                          try clear c23
                                          try clear c23b0
                                          try clear c24
                                          try clear c24b0
                                          try clear c24b1
                                          try clear c24b2
                                          try clear c25
                                          try clear c25b0
                                          try clear c26
                                          try clear c26b0
                                          try clear c26b1
                                          try clear c27
                                          try clear c27b0
                                          try clear c27b1
                                          try clear c27b2
                                          try clear c28
                                          try clear c28b0
                                          try clear c29
                                          try clear c29b0
                                          try clear c29b1
                                          try clear c30
                                          try clear c30b0
                                          try clear c30b1
                                          try clear p30
                                          try clear q30
                                          try clear hx30
                                          try clear c31
                                          try clear c31b0
                                          try clear c31b1
                                          try clear c32
                                          try clear c32b0
                                          try clear c32b1
                                          try clear c32b2
                                          try clear c34
                                          try clear c34b0
                                          try clear c35
                                          try clear c35b0
                                          try clear c35b1
                                          try clear c36
                                          try clear c36b0
                                          try clear c36b1
                                          try clear c37
                                          try clear c37b0
                                          try clear c37b1
                                          try clear c38
                                          try clear c38b0
                                          try clear c38b1
                                          try clear c38b2
                                          try clear c42
                                          try clear c42b0
                                          try clear c42b1
                                          try clear c44
                                          try clear c45
                                          try clear c45b0
                                          try clear c45b1
                                          try clear c45b2
                                          try clear hx303_0
                                          try clear hx304_0
                                          try clear hx305_0
                                          try clear hx306_0
                                          try clear p2
                                          try clear p3
                                          try clear p30
                                          try clear p303
                                          try clear p304
                                          try clear p305
                                          try clear p306
                                          try clear p6
                                          try clear q3
                                          try clear q30
                                          try clear q303
                                          try clear q304
                                          try clear q305
                                          try clear q306
                                          obtain ⟨x13_8, x16_8, rfl, rfl, HA, HK8, HB⟩ := hrel
                                          cases gk with
                                          | zero => exact absurd HA.out (by simp [calamuslaw01_FixedReads.l2])
                                          | succ k8 =>
                                            have H := HA.out
                                            clear HA
                                            simp only [calamuslaw01_FixedReads.l2] at H
                                            by_cases c46 : x16_8 < (Int.tmod a1 8)
                                            · rw [if_pos c46] at H
                                              have c46b0 : decide (x16_8 < (Int.tmod a1 8)) = true := decide_eq_true c46
                                              clear c46
                                              by_cases c47 : x13_8.size + 1 ≤ 9223372036854775807
                                              · rw [if_pos c47] at H
                                                have c47b0 := eq_true c47
                                                have c47b1 : decide (x13_8.size + 1 ≤ 9223372036854775807) = true := decide_eq_true c47
                                                try have c47b2 : (9223372036854775807 < x13_8.size + 1) = False := eq_false (Nat.not_lt.2 c47)
                                                have H' := Aside0.mk H
                                                clear H
                                                go_wp2
                                                repeat (go_quiet (fail); try go_wp2)
                                                go_roundg k8
                                                case measure => have := HJ7.out; have := HJ13.out; have := HJ20.out; have := HK4.out; have := HK5.out; have := HJ39.out; have := HJ42.out; have := HK8.out; omega
                                                case rel => exact ⟨(x13_8 ++ (⟨#[48]⟩ : ByteArray)), ((x16_8 + 1) % 256), (by first | rfl | (simp; done) | (simp [*]; done)), (by first | rfl | (simp; done) | (simp [*]; done)), H', ⟨by have := HJ7.out; have := HJ13.out; have := HJ20.out; have := HK4.out; have := HK5.out; have := HJ39.out; have := HJ42.out; have := HK8.out; omega⟩, ⟨by repeat (first | (with_reducible first | exact HB.out | apply below_alloc | apply pw_below_drewN | apply below_drew1) | exact HB.out)⟩⟩
                                              · rw [if_neg c47] at H
                                                exact absurd H (by simp)
                                            · rw [if_neg c46] at H
                                              have c46b0 : decide (x16_8 < (Int.tmod a1 8)) = false := decide_eq_false c46
                                              clear c46
                                              replace H := Option.bind_eq_some_iff.mp H
                                              obtain ⟨⟨t307, t308⟩, A480, H⟩ := H
                                              replace H : (if t307 = t292 then (if t308 = t293 then ((calamuslaw01_works.f k8).bind fun t309 => (some t309)) else (some false)) else (some false)) = some r := H
                                              have A48 := Aside0.mk A480
                                              clear A480
                                              by_cases c49 : t307 = t292
                                              · rw [if_pos c49] at H
                                                have c49b0 : (t307 == t292) = true := beq_iff_eq.mpr c49
                                                have c49b1 : (t307 != t292) = false := bne_eq_false_iff_eq.mpr c49
                                                clear c49
                                                by_cases c50 : t308 = t293
                                                · rw [if_pos c50] at H
                                                  have c50b0 : (t308 == t293) = true := beq_iff_eq.mpr c50
                                                  have c50b1 : (t308 != t293) = false := bne_eq_false_iff_eq.mpr c50
                                                  clear c50
                                                  replace H := Option.bind_eq_some_iff.mp H
                                                  obtain ⟨t309, A510, H⟩ := H
                                                  replace H : (some t309) = some r := H
                                                  have A51 := Aside0.mk A510
                                                  clear A510
                                                  obtain rfl := Option.some.inj H
                                                  go_wp2_with (first | (go_at_call 8; (with_reducible refine (fixed_Read.calls k8 x13_8 t307 t308 _ A48.out (HWF.out.below (by repeat (first | (with_reducible first | exact HB.out | apply below_alloc | apply pw_below_drewN | apply below_drew1) | exact HB.out)))).mono ?_); rintro e w52 ⟨rfl, hb⟩; have n0_ := Aside0.mk (below_step (by repeat (first | (with_reducible first | exact HB.out | apply below_alloc | apply pw_below_drewN | apply below_drew1) | exact HB.out)) hb); clear HB; have HB := n0_; clear n0_; (try clear hb); (try clear hb2); (try clear hk); (try clear hi)) | (go_at_call 14; (with_reducible refine (calamuslaw01_works.calls k8  t309 _ A51.out (HWF.out.below (by repeat (first | (with_reducible first | exact HB.out | apply below_alloc | apply pw_below_drewN | apply below_drew1) | exact HB.out)))).mono ?_); rintro e w53 ⟨rfl, hb⟩; have n0_ := Aside0.mk (below_step (by repeat (first | (with_reducible first | exact HB.out | apply below_alloc | apply pw_below_drewN | apply below_drew1) | exact HB.out)) hb); clear HB; have HB := n0_; clear n0_; (try clear hb); (try clear hb2); (try clear hk); (try clear hi)))
                                                  repeat (go_quiet (first | (go_at_call 8; (with_reducible refine (fixed_Read.calls k8 x13_8 t307 t308 _ A48.out (HWF.out.below (by repeat (first | (with_reducible first | exact HB.out | apply below_alloc | apply pw_below_drewN | apply below_drew1) | exact HB.out)))).mono ?_); rintro e w52 ⟨rfl, hb⟩; have n0_ := Aside0.mk (below_step (by repeat (first | (with_reducible first | exact HB.out | apply below_alloc | apply pw_below_drewN | apply below_drew1) | exact HB.out)) hb); clear HB; have HB := n0_; clear n0_; (try clear hb); (try clear hb2); (try clear hk); (try clear hi)) | (go_at_call 14; (with_reducible refine (calamuslaw01_works.calls k8  t309 _ A51.out (HWF.out.below (by repeat (first | (with_reducible first | exact HB.out | apply below_alloc | apply pw_below_drewN | apply below_drew1) | exact HB.out)))).mono ?_); rintro e w53 ⟨rfl, hb⟩; have n0_ := Aside0.mk (below_step (by repeat (first | (with_reducible first | exact HB.out | apply below_alloc | apply pw_below_drewN | apply below_drew1) | exact HB.out)) hb); clear HB; have HB := n0_; clear n0_; (try clear hb); (try clear hb2); (try clear hk); (try clear hi))); try go_wp2_with (first | (go_at_call 8; (with_reducible refine (fixed_Read.calls k8 x13_8 t307 t308 _ A48.out (HWF.out.below (by repeat (first | (with_reducible first | exact HB.out | apply below_alloc | apply pw_below_drewN | apply below_drew1) | exact HB.out)))).mono ?_); rintro e w52 ⟨rfl, hb⟩; have n0_ := Aside0.mk (below_step (by repeat (first | (with_reducible first | exact HB.out | apply below_alloc | apply pw_below_drewN | apply below_drew1) | exact HB.out)) hb); clear HB; have HB := n0_; clear n0_; (try clear hb); (try clear hb2); (try clear hk); (try clear hi)) | (go_at_call 14; (with_reducible refine (calamuslaw01_works.calls k8  t309 _ A51.out (HWF.out.below (by repeat (first | (with_reducible first | exact HB.out | apply below_alloc | apply pw_below_drewN | apply below_drew1) | exact HB.out)))).mono ?_); rintro e w53 ⟨rfl, hb⟩; have n0_ := Aside0.mk (below_step (by repeat (first | (with_reducible first | exact HB.out | apply below_alloc | apply pw_below_drewN | apply below_drew1) | exact HB.out)) hb); clear HB; have HB := n0_; clear n0_; (try clear hb); (try clear hb2); (try clear hk); (try clear hi))))
                                                  go_ret
                                                  exact ⟨by first | rfl | (simp [errW_none, errW_some] <;> rfl) | (simp [*, errW_none, errW_some] <;> rfl), by repeat (first | (with_reducible first | exact HB.out | apply below_alloc | apply pw_below_drewN | apply below_drew1) | exact HB.out)⟩
                                                · rw [if_neg c50] at H
                                                  have c50b0 : (t308 == t293) = false := beq_eq_false_iff_ne.mpr c50
                                                  have c50b1 : (t308 != t293) = true := bne_iff_ne.mpr c50
                                                  obtain rfl := Option.some.inj H
                                                  go_wp2_with (first | (go_at_call 8; (with_reducible refine (fixed_Read.calls k8 x13_8 t307 t308 _ A48.out (HWF.out.below (by repeat (first | (with_reducible first | exact HB.out | apply below_alloc | apply pw_below_drewN | apply below_drew1) | exact HB.out)))).mono ?_); rintro e w54 ⟨rfl, hb⟩; have n0_ := Aside0.mk (below_step (by repeat (first | (with_reducible first | exact HB.out | apply below_alloc | apply pw_below_drewN | apply below_drew1) | exact HB.out)) hb); clear HB; have HB := n0_; clear n0_; (try clear hb); (try clear hb2); (try clear hk); (try clear hi)))
                                                  repeat (go_quiet (first | (go_at_call 8; (with_reducible refine (fixed_Read.calls k8 x13_8 t307 t308 _ A48.out (HWF.out.below (by repeat (first | (with_reducible first | exact HB.out | apply below_alloc | apply pw_below_drewN | apply below_drew1) | exact HB.out)))).mono ?_); rintro e w54 ⟨rfl, hb⟩; have n0_ := Aside0.mk (below_step (by repeat (first | (with_reducible first | exact HB.out | apply below_alloc | apply pw_below_drewN | apply below_drew1) | exact HB.out)) hb); clear HB; have HB := n0_; clear n0_; (try clear hb); (try clear hb2); (try clear hk); (try clear hi))); try go_wp2_with (first | (go_at_call 8; (with_reducible refine (fixed_Read.calls k8 x13_8 t307 t308 _ A48.out (HWF.out.below (by repeat (first | (with_reducible first | exact HB.out | apply below_alloc | apply pw_below_drewN | apply below_drew1) | exact HB.out)))).mono ?_); rintro e w54 ⟨rfl, hb⟩; have n0_ := Aside0.mk (below_step (by repeat (first | (with_reducible first | exact HB.out | apply below_alloc | apply pw_below_drewN | apply below_drew1) | exact HB.out)) hb); clear HB; have HB := n0_; clear n0_; (try clear hb); (try clear hb2); (try clear hk); (try clear hi))))
                                                  go_ret
                                                  exact ⟨by first | rfl | (simp [errW_none, errW_some] <;> rfl) | (simp [*, errW_none, errW_some] <;> rfl), by repeat (first | (with_reducible first | exact HB.out | apply below_alloc | apply pw_below_drewN | apply below_drew1) | exact HB.out)⟩
                                              · rw [if_neg c49] at H
                                                have c49b0 : (t307 == t292) = false := beq_eq_false_iff_ne.mpr c49
                                                have c49b1 : (t307 != t292) = true := bne_iff_ne.mpr c49
                                                obtain rfl := Option.some.inj H
                                                go_wp2_with (first | (go_at_call 8; (with_reducible refine (fixed_Read.calls k8 x13_8 t307 t308 _ A48.out (HWF.out.below (by repeat (first | (with_reducible first | exact HB.out | apply below_alloc | apply pw_below_drewN | apply below_drew1) | exact HB.out)))).mono ?_); rintro e w55 ⟨rfl, hb⟩; have n0_ := Aside0.mk (below_step (by repeat (first | (with_reducible first | exact HB.out | apply below_alloc | apply pw_below_drewN | apply below_drew1) | exact HB.out)) hb); clear HB; have HB := n0_; clear n0_; (try clear hb); (try clear hb2); (try clear hk); (try clear hi)))
                                                repeat (go_quiet (first | (go_at_call 8; (with_reducible refine (fixed_Read.calls k8 x13_8 t307 t308 _ A48.out (HWF.out.below (by repeat (first | (with_reducible first | exact HB.out | apply below_alloc | apply pw_below_drewN | apply below_drew1) | exact HB.out)))).mono ?_); rintro e w55 ⟨rfl, hb⟩; have n0_ := Aside0.mk (below_step (by repeat (first | (with_reducible first | exact HB.out | apply below_alloc | apply pw_below_drewN | apply below_drew1) | exact HB.out)) hb); clear HB; have HB := n0_; clear n0_; (try clear hb); (try clear hb2); (try clear hk); (try clear hi))); try go_wp2_with (first | (go_at_call 8; (with_reducible refine (fixed_Read.calls k8 x13_8 t307 t308 _ A48.out (HWF.out.below (by repeat (first | (with_reducible first | exact HB.out | apply below_alloc | apply pw_below_drewN | apply below_drew1) | exact HB.out)))).mono ?_); rintro e w55 ⟨rfl, hb⟩; have n0_ := Aside0.mk (below_step (by repeat (first | (with_reducible first | exact HB.out | apply below_alloc | apply pw_below_drewN | apply below_drew1) | exact HB.out)) hb); clear HB; have HB := n0_; clear n0_; (try clear hb); (try clear hb2); (try clear hk); (try clear hi))))
                                                go_ret
                                                exact ⟨by first | rfl | (simp [errW_none, errW_some] <;> rfl) | (simp [*, errW_none, errW_some] <;> rfl), by repeat (first | (with_reducible first | exact HB.out | apply below_alloc | apply pw_below_drewN | apply below_drew1) | exact HB.out)⟩


end Go.Proofs.YtfhadnhpognefaaGreatDoor.PRef
