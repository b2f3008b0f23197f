/- What the program reads of a text. -/
import Derived.Test.YtfhadnhpognefaaGreatDoorFxBits
import Derived.Test.YtfhadnhpognefaaGreatDoorFxPrint
namespace Go.Proofs.YtfhadnhpognefaaGreatDoor.Fx
open Go Go.RowKit

/-- What is read of the variables. -/
structure Wf (w : World) : Prop where
  tab : Lib.TabIs Tryz.prog w "internal/strconv.uint64pow10" .u64 Lib.pow10Tab
  max : ∃ m, w.cell? ⟨3, 0, none⟩ = some (.int .i64 m)
  range : ∃ tp p, w.var? Tryz.prog "strconv.ErrRange" = some #[.iface tp p]
theorem var_below {w W : World} {P : Program} {name : String} {v : Array Value} (h : w.var? P name = some v) (hb : Below w.heap.size w W) : W.var? P name = some v := by
  unfold World.var? at *
  rcases hg : P.globalNamed name with _ | g
  · rw [hg] at h; simp at h
  · rw [hg] at h
    simp only [Option.bind_some] at h ⊢
    by_cases hl : g < w.heap.size
    · rw [hb.block g hl]; exact h
    · rw [Array.getElem?_eq_none (Nat.le_of_not_lt hl)] at h
      simp at h
theorem Wf.below {w W : World} (h : Wf w) (hb : Below w.heap.size w W) : Wf W := by
  obtain ⟨ht, ⟨m, hm⟩, ⟨tp, p, hr⟩⟩ := h
  exact ⟨tab_below ht hb, ⟨m, (hb.cell (p := ⟨3, 0, none⟩) (World.block_lt_of_cell? _ _ hm)).trans hm⟩, ⟨tp, p, var_below hr hb⟩⟩
theorem CutPrefix_tells (s : ByteArray) (w : World) :
    Calls Tryz.prog 25 #[.string s, .string ⟨#[45]⟩] w fun e w' => e = .returned (.tuple #[.string ⟨(restOf s.data.toList).toArray⟩, .bool (negOf s.data.toList)]) ∧ w = w' := by
  refine (Tryz.strings_CutPrefix s ⟨#[45]⟩ w).mono ?_
  rintro e w' ⟨rfl, rfl⟩
  refine ⟨?_, rfl⟩
  show Ending.returned (.tuple #[.string ⟨(Lib.trimPrefix s.data.toList [45]).toArray⟩, .bool (Lib.hasPrefix s.data.toList [45])]) = _
  rw [prefix_rest, prefix_neg]
theorem Cut_tells (s : ByteArray) (hs : s.size < 4294967281) (w : World) (hw : Wf w) :
    Calls Tryz.prog 26 #[.string s, .string ⟨#[46]⟩] w fun e w' => e = .returned (.tuple #[.string ⟨(cutAt 46 s.data.toList).1.toArray⟩, .string ⟨((cutAt 46 s.data.toList).2.getD []).toArray⟩, .bool (cutAt 46 s.data.toList).2.isSome]) ∧ Below w.heap.size w w' := by
  obtain ⟨m, hm⟩ := hw.max
  refine (Tryz.strings_Cut s ⟨#[46]⟩ m w hs hm).mono ?_
  rintro e w' ⟨rfl, n, rfl⟩
  refine ⟨?_, below_drewN (Below.refl _ _) n⟩
  show Ending.returned (.tuple #[.string ⟨(Lib.cut s.data.toList [46]).1.toArray⟩, .string ⟨(Lib.cut s.data.toList [46]).2.1.toArray⟩, .bool (Lib.cut s.data.toList [46]).2.2]) = _
  rw [cut_at]
theorem size_of (l : List UInt8) : (⟨l.toArray⟩ : ByteArray).size = l.length := rfl
theorem rest_le (l : List UInt8) : (restOf l).length ≤ l.length := by
  unfold restOf; split <;> simp
theorem cut_le (c : UInt8) : ∀ l : List UInt8, (cutAt c l).1.length ≤ l.length ∧ ((cutAt c l).2.getD []).length ≤ l.length ∧ (cutAt c l).1.length + ((cutAt c l).2.getD []).length ≤ l.length
  | [] => by simp [cutAt]
  | x :: l => by
    have := cut_le c l
    by_cases h : x = c
    · simp [cutAt, h]
    · simp [cutAt, h]; omega

theorem Read_caught (a : Act) (w W : World) (hd : a.defers = [{ target := Target.fn (Fn.func 28) #[], args := #[Value.pointer (some { block := w.heap.size, off := 0 }), Value.pointer (some { block := w.heap.size + 1, off := 0 })] }])
    (h8 : a.tmps[2]?.getD undef = Value.pointer (some { block := w.heap.size, off := 0 })) (h9 : a.tmps[3]?.getD undef = Value.pointer (some { block := w.heap.size + 1, off := 0 })) (hf : Fr w W) :
    bodyPostD Tryz.prog Tryz.f8 (fun e w' => e = Ending.returned (Value.tuple #[Value.int IntKind.i64 0, Value.int IntKind.i64 10]) ∧ Below w.heap.size w w') (Exit.panic flowPanic) a W := by
  have hc := caught_panicking { block := w.heap.size, off := 0 } { block := w.heap.size + 1, off := 0 } 0 0 W hf.n hf.nz hf.e hf.ez (by simp)
  simp only [bodyPostD, hd]
  refine leaves_cons (f := 28) (args := #[Value.pointer (some { block := w.heap.size, off := 0 }), Value.pointer (some { block := w.heap.size + 1, off := 0 })]) (by simp) (by simp [go_sem]) ?_
  refine hc.mono ?_
  rintro e u' w' ⟨rfl, rfl, rfl⟩
  have c1 : (((W.setCell { block := w.heap.size, off := 0 } (Value.int IntKind.i64 0)).setCell { block := w.heap.size + 1, off := 0 } (Value.int IntKind.i64 10)).drew).cell? { block := w.heap.size, off := 0 } = some (.int .i64 0) :=
    (World.cell?_setCell_other _ { block := w.heap.size + 1, off := 0 } { block := w.heap.size, off := 0 } _ (by simp)).trans (World.cell?_setCell_same W _ _ hf.n)
  have c2 : (((W.setCell { block := w.heap.size, off := 0 } (Value.int IntKind.i64 0)).setCell { block := w.heap.size + 1, off := 0 } (Value.int IntKind.i64 10)).drew).cell? { block := w.heap.size + 1, off := 0 } = some (.int .i64 10) :=
    World.cell?_setCell_same _ _ _ ((World.cell?_setCell_other _ _ _ _ (by simp)).trans hf.e)
  have hbF := ((hf.below.setCell (p := { block := w.heap.size, off := 0 }) (Nat.le_refl _) (Value.int IntKind.i64 0)).setCell (p := { block := w.heap.size + 1, off := 0 }) (Nat.le_succ _) (Value.int IntKind.i64 10)).drew
  generalize (((W.setCell { block := w.heap.size, off := 0 } (Value.int IntKind.i64 0)).setCell { block := w.heap.size + 1, off := 0 } (Value.int IntKind.i64 10)).drew) = G at c1 c2 hbF ⊢
  simp [Leaves, settle, results, Tryz.results8, go_sem, h8, h9, c1, c2]
  exact hbF
theorem Read_done (a : Act) (w W : World) (x y : Int) (hd : a.defers = [{ target := Target.fn (Fn.func 28) #[], args := #[Value.pointer (some { block := w.heap.size, off := 0 }), Value.pointer (some { block := w.heap.size + 1, off := 0 })] }])
    (h8 : a.tmps[2]?.getD undef = Value.pointer (some { block := w.heap.size, off := 0 })) (h9 : a.tmps[3]?.getD undef = Value.pointer (some { block := w.heap.size + 1, off := 0 }))
    (c1 : W.cell? { block := w.heap.size, off := 0 } = some (.int .i64 x)) (c2 : W.cell? { block := w.heap.size + 1, off := 0 } = some (.int .i64 y)) (hb : Below w.heap.size w W) :
    bodyPostD Tryz.prog Tryz.f8 (fun e w' => e = Ending.returned (Value.tuple #[Value.int IntKind.i64 x, Value.int IntKind.i64 y]) ∧ Below w.heap.size w w') Exit.ret a W := by
  simp only [bodyPostD, hd]
  refine leaves_cons (f := 28) (args := #[Value.pointer (some { block := w.heap.size, off := 0 }), Value.pointer (some { block := w.heap.size + 1, off := 0 })]) (by simp) (by simp [go_sem]) ?_
  refine (caught_idle { block := w.heap.size, off := 0 } { block := w.heap.size + 1, off := 0 } W).mono ?_
  rintro e u' w' ⟨rfl, rfl, rfl⟩
  simp [Leaves, settle, results, Tryz.results8, go_sem, h8, h9, c1, c2]
  exact hb
theorem Read_plain (a : Act) (w W : World) (x y : Int) (hd : a.defers = [])
    (h8 : a.tmps[2]?.getD undef = Value.pointer (some { block := w.heap.size, off := 0 })) (h9 : a.tmps[3]?.getD undef = Value.pointer (some { block := w.heap.size + 1, off := 0 }))
    (c1 : W.cell? { block := w.heap.size, off := 0 } = some (.int .i64 x)) (c2 : W.cell? { block := w.heap.size + 1, off := 0 } = some (.int .i64 y)) (hb : Below w.heap.size w W) :
    bodyPostD Tryz.prog Tryz.f8 (fun e w' => e = Ending.returned (Value.tuple #[Value.int IntKind.i64 x, Value.int IntKind.i64 y]) ∧ Below w.heap.size w w') Exit.ret a W := by
  simp only [bodyPostD, hd]
  simp [Leaves, results, Tryz.results8, go_sem, h8, h9, c1, c2]
  exact hb
/-- .. and the part, behind them. -/
structure Pa (w W : World) (bp : Nat) (part : ByteArray) : Prop where
  fr : Fr w W
  cell : W.cell? ⟨bp, 0, none⟩ = some (.string part)
  lo : w.heap.size + 2 ≤ bp
  hi : bp < W.heap.size
theorem Pa.first {w W : World} (h : Fr w W) (part : ByteArray) : Pa w (W.alloc (.cells #[.string part] 9)) W.heap.size part :=
  ⟨h.step ((Below.refl _ _).alloc (Nat.le_refl _) _), by simp [go_sem], h.size, by simp⟩
theorem Pa.step {w W W' : World} {bp : Nat} {part : ByteArray} (h : Pa w W bp part) (hb : Below W.heap.size W W') : Pa w W' bp part :=
  ⟨h.fr.step hb, (hb.cell (p := ⟨bp, 0, none⟩) h.hi).trans h.cell, h.lo, Nat.lt_of_lt_of_le h.hi hb.size⟩
theorem row_zero (W : World) : Row (W.alloc (.cells (Array.replicate 40 (.int .u8 0)) 65)) W.heap.size (fun _ => 0) := fun j hj =>
  ⟨by rw [World.cell?_alloc_new, Array.getElem?_replicate, if_pos hj]; rfl, World.frozen?_alloc_new _ _ _ _⟩
theorem dig_range {s : ByteArray} (h : s.data.toList.all isDig = true) {k : Nat} (hk : k < s.size) : 48 ≤ (s[k]'hk).toNat ∧ (s[k]'hk).toNat ≤ 57 ∧ (s[k]'hk).toNat - 48 = Gl s.data.toList k := by
  have hl : k < s.data.toList.length := by rw [← Lib.size_eq]; exact hk
  have e : s.data.toList[k] = s[k]'hk := rfl
  have h1 := List.all_eq_true.1 h _ (List.getElem_mem hl)
  unfold isDig at h1
  rw [e] at h1
  simp at h1
  refine ⟨h1.1, h1.2, ?_⟩
  unfold Gl
  rw [List.getD_eq_getElem?_getD, List.getElem?_eq_getElem hl, e]; rfl
theorem bits_bound {wv V u p k L : Nat} (h : wv * 10 ^ L + V = (u * 10 ^ L + p) * 2 ^ k) (hp : p < 10 ^ L) (hu : u ≤ 140737488355328) (hk : k ≤ 16) : wv < 9223372036854841344 := by
  have h10 : 0 < 10 ^ L := Nat.pow_pos (by decide)
  have h2 : 2 ^ k ≤ 65536 := Nat.pow_le_pow_right (by decide) hk
  have h3 : (u * 10 ^ L + p) * 2 ^ k ≤ (u * 10 ^ L + p) * 65536 := Nat.mul_le_mul_left _ h2
  have h4 : u * 10 ^ L ≤ 140737488355328 * 10 ^ L := Nat.mul_le_mul_right _ hu
  have h5 : wv * 10 ^ L < 9223372036854841344 * 10 ^ L := by omega
  exact Nat.lt_of_mul_lt_mul_right h5
theorem bits_bound15 {wv V u p k L : Nat} (h : wv * 10 ^ L + V = (u * 10 ^ L + p) * 2 ^ k) (hp : p < 10 ^ L) (hu : u ≤ 140737488355328) (hk : k ≤ 15) : wv < 4611686018427420672 := by
  have h10 : 0 < 10 ^ L := Nat.pow_pos (by decide)
  have h2 : 2 ^ k ≤ 32768 := Nat.pow_le_pow_right (by decide) hk
  have h3 : (u * 10 ^ L + p) * 2 ^ k ≤ (u * 10 ^ L + p) * 32768 := Nat.mul_le_mul_left _ h2
  have h4 : u * 10 ^ L ≤ 140737488355328 * 10 ^ L := Nat.mul_le_mul_right _ hu
  have h5 : wv * 10 ^ L < 4611686018427420672 * 10 ^ L := by omega
  exact Nat.lt_of_mul_lt_mul_right h5
theorem bits_step {wv V V' c T P k : Nat} (h : wv * P + V = T * 2 ^ k) (h2 : V' + c * P = 2 * V) : (wv * 2 + c) * P + V' = T * 2 ^ (k + 1) := by
  rw [Nat.pow_succ, ← Nat.mul_assoc, ← h, Nat.add_mul, Nat.mul_right_comm]
  omega
set_option maxHeartbeats 4000000 in
set_option maxRecDepth 100000 in
theorem Read_long (s rest whole part : ByteArray) (neg pt : Bool) (w : World) (hw : Wf w)
    (C1 : Hid (∀ W, Calls Tryz.prog 25 #[.string s, .string ⟨#[45]⟩] W fun e w' => e = .returned (.tuple #[.string rest, .bool neg]) ∧ W = w'))
    (C2 : Hid (∀ W, Wf W → Calls Tryz.prog 26 #[.string rest, .string ⟨#[46]⟩] W fun e w' => e = .returned (.tuple #[.string whole, .string part, .bool pt]) ∧ Below W.heap.size W w'))
    (h : 40 < (s.size : Int)) :
    Calls Tryz.prog 8 #[.string s] w fun e w' => e = .returned (.tuple #[.int .i64 0, .int .i64 2]) ∧ Below w.heap.size w w' := by
  have HW := Lib.hid hw
  clear hw
  go_enter_defers Tryz.func8, Tryz.ntmps8
  go_wp2_with fail
  refine (C1.out _).mono ?_
  rintro e w' ⟨rfl, rfl⟩
  go_wp2_with fail
  have hf := Fr.first w
  refine (C2.out _ (HW.out.below hf.below)).mono ?_
  rintro e W1 ⟨rfl, hb1⟩
  have hf1 := hf.step hb1
  clear hf hb1
  have hn := hf1.n
  have hnz := hf1.nz
  have he := hf1.e
  have hez := hf1.ez
  have hl0 : w.heap.size < W1.heap.size := by have := hf1.size; omega
  have hl1 : w.heap.size + 1 < W1.heap.size := hf1.size
  have HF := Lib.hid hf1
  clear hf1
  go_wp2_with fail
  refine Read_plain _ w _ 0 2 rfl rfl rfl ?_ ?_ ?_
  · simp [go_sem, hl0, hn]
  · simp [go_sem, hl1, he]
  · exact ((HF.out.below.setCell (p := ⟨w.heap.size, 0, none⟩) (Nat.le_refl _) _).setCell (p := ⟨w.heap.size + 1, 0, none⟩) (Nat.le_succ _) _).alloc (by simp; omega) _
set_option maxHeartbeats 4000000 in
set_option maxRecDepth 100000 in
theorem Read_whole (s rest whole part : ByteArray) (neg pt dw : Bool) (w : World) (hw : Wf w)
    (C1 : Hid (∀ W, Calls Tryz.prog 25 #[.string s, .string ⟨#[45]⟩] W fun e w' => e = .returned (.tuple #[.string rest, .bool neg]) ∧ W = w'))
    (C2 : Hid (∀ W, Wf W → Calls Tryz.prog 26 #[.string rest, .string ⟨#[46]⟩] W fun e w' => e = .returned (.tuple #[.string whole, .string part, .bool pt]) ∧ Below W.heap.size W w'))
    (DW : Hid (∀ W, Calls Tryz.prog 27 #[.string whole] W fun e w' => e = .returned (.bool dw) ∧ Below W.heap.size W w'))
    (h : (s.size : Int) ≤ 40) (hdw : dw = false) :
    Calls Tryz.prog 8 #[.string s] w fun e w' => e = .returned (.tuple #[.int .i64 0, .int .i64 2]) ∧ Below w.heap.size w w' := by
  have HW := Lib.hid hw
  clear hw
  go_enter_defers Tryz.func8, Tryz.ntmps8
  go_wp2_with fail
  refine (C1.out _).mono ?_
  rintro e w' ⟨rfl, rfl⟩
  go_wp2_with fail
  have hf := Fr.first w
  refine (C2.out _ (HW.out.below hf.below)).mono ?_
  rintro e W1 ⟨rfl, hb1⟩
  have hf1 := hf.step hb1
  clear hf hb1
  have hn := hf1.n
  have hnz := hf1.nz
  have he := hf1.e
  have hez := hf1.ez
  have hl0 : w.heap.size < W1.heap.size := by have := hf1.size; omega
  have hl1 : w.heap.size + 1 < W1.heap.size := hf1.size
  have HF := Lib.hid hf1
  clear hf1
  go_wp2_with fail
  have hp2 := Pa.first HF.out part
  refine (DW.out _).mono ?_
  rintro e W2 ⟨rfl, hb2⟩
  have P2 := Lib.hid (hp2.step hb2)
  clear hn hnz he hez hp2 hb2
  have hn := P2.out.fr.n
  have hnz := P2.out.fr.nz
  have he := P2.out.fr.e
  have hez := P2.out.fr.ez
  have hpc := P2.out.cell
  go_wp2_with fail
  exact Read_plain _ w _ 0 2 rfl rfl rfl ((World.cell?_setCell_other _ _ _ _ (by simp)).trans (World.cell?_setCell_same _ _ _ hn)) (World.cell?_setCell_same _ _ _ ((World.cell?_setCell_other _ _ _ _ (by simp)).trans he)) ((P2.out.fr.below.setCell (Nat.le_refl _) _).setCell (Nat.le_succ _) _)
set_option maxHeartbeats 4000000 in
set_option maxRecDepth 100000 in
theorem Read_part (s rest whole part : ByteArray) (neg pt dw dp : Bool) (w : World) (hw : Wf w)
    (C1 : Hid (∀ W, Calls Tryz.prog 25 #[.string s, .string ⟨#[45]⟩] W fun e w' => e = .returned (.tuple #[.string rest, .bool neg]) ∧ W = w'))
    (C2 : Hid (∀ W, Wf W → Calls Tryz.prog 26 #[.string rest, .string ⟨#[46]⟩] W fun e w' => e = .returned (.tuple #[.string whole, .string part, .bool pt]) ∧ Below W.heap.size W w'))
    (DW : Hid (∀ W, Calls Tryz.prog 27 #[.string whole] W fun e w' => e = .returned (.bool dw) ∧ Below W.heap.size W w'))
    (DP : Hid (∀ W, Calls Tryz.prog 27 #[.string part] W fun e w' => e = .returned (.bool dp) ∧ Below W.heap.size W w'))
    (h : (s.size : Int) ≤ 40) (hdw : dw = true) (hpt : pt = true) (hdp : dp = false) :
    Calls Tryz.prog 8 #[.string s] w fun e w' => e = .returned (.tuple #[.int .i64 0, .int .i64 2]) ∧ Below w.heap.size w w' := by
  have HW := Lib.hid hw
  clear hw
  go_enter_defers Tryz.func8, Tryz.ntmps8
  go_wp2_with fail
  refine (C1.out _).mono ?_
  rintro e w' ⟨rfl, rfl⟩
  go_wp2_with fail
  have hf := Fr.first w
  refine (C2.out _ (HW.out.below hf.below)).mono ?_
  rintro e W1 ⟨rfl, hb1⟩
  have hf1 := hf.step hb1
  clear hf hb1
  have hn := hf1.n
  have hnz := hf1.nz
  have he := hf1.e
  have hez := hf1.ez
  have hl0 : w.heap.size < W1.heap.size := by have := hf1.size; omega
  have hl1 : w.heap.size + 1 < W1.heap.size := hf1.size
  have HF := Lib.hid hf1
  clear hf1
  go_wp2_with fail
  have hp2 := Pa.first HF.out part
  refine (DW.out _).mono ?_
  rintro e W2 ⟨rfl, hb2⟩
  have P2 := Lib.hid (hp2.step hb2)
  clear hn hnz he hez hp2 hb2
  have hn := P2.out.fr.n
  have hnz := P2.out.fr.nz
  have he := P2.out.fr.e
  have hez := P2.out.fr.ez
  have hpc := P2.out.cell
  go_wp2_with fail
  have hp3 := P2.out
  refine (DP.out _).mono ?_
  rintro e W3 ⟨rfl, hb3⟩
  have P3 := Lib.hid (hp3.step hb3)
  clear hn hnz he hez hp3 hb3 hpc
  have hn := P3.out.fr.n
  have hnz := P3.out.fr.nz
  have he := P3.out.fr.e
  have hez := P3.out.fr.ez
  have hpc := P3.out.cell
  go_wp2_with fail
  exact Read_plain _ w _ 0 2 rfl rfl rfl ((World.cell?_setCell_other _ _ _ _ (by simp)).trans (World.cell?_setCell_same _ _ _ hn)) (World.cell?_setCell_same _ _ _ ((World.cell?_setCell_other _ _ _ _ (by simp)).trans he)) ((P3.out.fr.below.setCell (Nat.le_refl _) _).setCell (Nat.le_succ _) _)
set_option maxHeartbeats 4000000 in
set_option maxRecDepth 100000 in
theorem Read_range_point (s rest whole part : ByteArray) (neg pt dw dp : Bool) (w : World) (hw : Wf w)
    (C1 : Hid (∀ W, Calls Tryz.prog 25 #[.string s, .string ⟨#[45]⟩] W fun e w' => e = .returned (.tuple #[.string rest, .bool neg]) ∧ W = w'))
    (C2 : Hid (∀ W, Wf W → Calls Tryz.prog 26 #[.string rest, .string ⟨#[46]⟩] W fun e w' => e = .returned (.tuple #[.string whole, .string part, .bool pt]) ∧ Below W.heap.size W w'))
    (DW : Hid (∀ W, Calls Tryz.prog 27 #[.string whole] W fun e w' => e = .returned (.bool dw) ∧ Below W.heap.size W w'))
    (DP : Hid (∀ W, Calls Tryz.prog 27 #[.string part] W fun e w' => e = .returned (.bool dp) ∧ Below W.heap.size W w'))
    (PU : Hid (∀ W, Wf W → Calls Tryz.prog 29 #[.string whole, .int .i64 10, .int .i64 64] W fun e w' => (∃ N, e = .returned (.tuple #[.int .u64 18446744073709551615, .iface 111 (.pointer (some ⟨N, 0, none⟩))])) ∧ Below W.heap.size W w'))
    (h : (s.size : Int) ≤ 40) (hdw : dw = true) (hpt : pt = true) (hdp : dp = true) :
    Calls Tryz.prog 8 #[.string s] w fun e w' => e = .returned (.tuple #[.int .i64 0, .int .i64 10]) ∧ Below w.heap.size w w' := by
  have HW := Lib.hid hw
  clear hw
  go_enter_defers Tryz.func8, Tryz.ntmps8
  go_wp2_with fail
  refine (C1.out _).mono ?_
  rintro e w' ⟨rfl, rfl⟩
  go_wp2_with fail
  have hf := Fr.first w
  refine (C2.out _ (HW.out.below hf.below)).mono ?_
  rintro e W1 ⟨rfl, hb1⟩
  have hf1 := hf.step hb1
  clear hf hb1
  have hn := hf1.n
  have hnz := hf1.nz
  have he := hf1.e
  have hez := hf1.ez
  have hl0 : w.heap.size < W1.heap.size := by have := hf1.size; omega
  have hl1 : w.heap.size + 1 < W1.heap.size := hf1.size
  have HF := Lib.hid hf1
  clear hf1
  go_wp2_with fail
  have hp2 := Pa.first HF.out part
  refine (DW.out _).mono ?_
  rintro e W2 ⟨rfl, hb2⟩
  have P2 := Lib.hid (hp2.step hb2)
  clear hn hnz he hez hp2 hb2
  have hn := P2.out.fr.n
  have hnz := P2.out.fr.nz
  have he := P2.out.fr.e
  have hez := P2.out.fr.ez
  have hpc := P2.out.cell
  go_wp2_with fail
  have hp3 := P2.out
  refine (DP.out _).mono ?_
  rintro e W3 ⟨rfl, hb3⟩
  have P3 := Lib.hid (hp3.step hb3)
  clear hn hnz he hez hp3 hb3 hpc
  have hn := P3.out.fr.n
  have hnz := P3.out.fr.nz
  have he := P3.out.fr.e
  have hez := P3.out.fr.ez
  have hpc := P3.out.cell
  go_wp2_with fail
  have hp4 := P3.out
  refine (PU.out _ (HW.out.below P3.out.fr.below)).mono ?_
  rintro e W4 ⟨⟨N, rfl⟩, hb4⟩
  have P4 := Lib.hid (hp4.step hb4)
  clear hn hnz he hez hp4 hb4 hpc
  have hn := P4.out.fr.n
  have hnz := P4.out.fr.nz
  have he := P4.out.fr.e
  have hez := P4.out.fr.ez
  have hpc := P4.out.cell
  go_wp2_with fail
  exact Read_caught _ w W4 rfl rfl rfl P4.out.fr
set_option maxHeartbeats 4000000 in
set_option maxRecDepth 100000 in
theorem Read_range_flat (s rest whole part : ByteArray) (neg pt dw : Bool) (w : World) (hw : Wf w)
    (C1 : Hid (∀ W, Calls Tryz.prog 25 #[.string s, .string ⟨#[45]⟩] W fun e w' => e = .returned (.tuple #[.string rest, .bool neg]) ∧ W = w'))
    (C2 : Hid (∀ W, Wf W → Calls Tryz.prog 26 #[.string rest, .string ⟨#[46]⟩] W fun e w' => e = .returned (.tuple #[.string whole, .string part, .bool pt]) ∧ Below W.heap.size W w'))
    (DW : Hid (∀ W, Calls Tryz.prog 27 #[.string whole] W fun e w' => e = .returned (.bool dw) ∧ Below W.heap.size W w'))
    (PU : Hid (∀ W, Wf W → Calls Tryz.prog 29 #[.string whole, .int .i64 10, .int .i64 64] W fun e w' => (∃ N, e = .returned (.tuple #[.int .u64 18446744073709551615, .iface 111 (.pointer (some ⟨N, 0, none⟩))])) ∧ Below W.heap.size W w'))
    (h : (s.size : Int) ≤ 40) (hdw : dw = true) (hpt : pt = false) :
    Calls Tryz.prog 8 #[.string s] w fun e w' => e = .returned (.tuple #[.int .i64 0, .int .i64 10]) ∧ Below w.heap.size w w' := by
  have HW := Lib.hid hw
  clear hw
  go_enter_defers Tryz.func8, Tryz.ntmps8
  go_wp2_with fail
  refine (C1.out _).mono ?_
  rintro e w' ⟨rfl, rfl⟩
  go_wp2_with fail
  have hf := Fr.first w
  refine (C2.out _ (HW.out.below hf.below)).mono ?_
  rintro e W1 ⟨rfl, hb1⟩
  have hf1 := hf.step hb1
  clear hf hb1
  have hn := hf1.n
  have hnz := hf1.nz
  have he := hf1.e
  have hez := hf1.ez
  have hl0 : w.heap.size < W1.heap.size := by have := hf1.size; omega
  have hl1 : w.heap.size + 1 < W1.heap.size := hf1.size
  have HF := Lib.hid hf1
  clear hf1
  go_wp2_with fail
  have hp2 := Pa.first HF.out part
  refine (DW.out _).mono ?_
  rintro e W2 ⟨rfl, hb2⟩
  have P2 := Lib.hid (hp2.step hb2)
  clear hn hnz he hez hp2 hb2
  have hn := P2.out.fr.n
  have hnz := P2.out.fr.nz
  have he := P2.out.fr.e
  have hez := P2.out.fr.ez
  have hpc := P2.out.cell
  go_wp2_with fail
  have hp4 := P2.out
  refine (PU.out _ (HW.out.below P2.out.fr.below)).mono ?_
  rintro e W4 ⟨⟨N, rfl⟩, hb4⟩
  have P4 := Lib.hid (hp4.step hb4)
  clear hn hnz he hez hp4 hb4 hpc
  have hn := P4.out.fr.n
  have hnz := P4.out.fr.nz
  have he := P4.out.fr.e
  have hez := P4.out.fr.ez
  have hpc := P4.out.cell
  go_wp2_with fail
  exact Read_caught _ w W4 rfl rfl rfl P4.out.fr
set_option maxHeartbeats 4000000 in
set_option maxRecDepth 100000 in
theorem Read_big_point (s rest whole part : ByteArray) (neg pt dw dp : Bool) (u : Nat) (w : World) (hw : Wf w)
    (C1 : Hid (∀ W, Calls Tryz.prog 25 #[.string s, .string ⟨#[45]⟩] W fun e w' => e = .returned (.tuple #[.string rest, .bool neg]) ∧ W = w'))
    (C2 : Hid (∀ W, Wf W → Calls Tryz.prog 26 #[.string rest, .string ⟨#[46]⟩] W fun e w' => e = .returned (.tuple #[.string whole, .string part, .bool pt]) ∧ Below W.heap.size W w'))
    (DW : Hid (∀ W, Calls Tryz.prog 27 #[.string whole] W fun e w' => e = .returned (.bool dw) ∧ Below W.heap.size W w'))
    (DP : Hid (∀ W, Calls Tryz.prog 27 #[.string part] W fun e w' => e = .returned (.bool dp) ∧ Below W.heap.size W w'))
    (PU : Hid (∀ W, Calls Tryz.prog 29 #[.string whole, .int .i64 10, .int .i64 64] W fun e w' => e = .returned (.tuple #[.int .u64 u, .nilIface]) ∧ Below W.heap.size W w'))
    (hu : 140737488355328 < (u : Int))
    (h : (s.size : Int) ≤ 40) (hdw : dw = true) (hpt : pt = true) (hdp : dp = true) :
    Calls Tryz.prog 8 #[.string s] w fun e w' => e = .returned (.tuple #[.int .i64 0, .int .i64 10]) ∧ Below w.heap.size w w' := by
  have HW := Lib.hid hw
  clear hw
  go_enter_defers Tryz.func8, Tryz.ntmps8
  go_wp2_with fail
  refine (C1.out _).mono ?_
  rintro e w' ⟨rfl, rfl⟩
  go_wp2_with fail
  have hf := Fr.first w
  refine (C2.out _ (HW.out.below hf.below)).mono ?_
  rintro e W1 ⟨rfl, hb1⟩
  have hf1 := hf.step hb1
  clear hf hb1
  have hn := hf1.n
  have hnz := hf1.nz
  have he := hf1.e
  have hez := hf1.ez
  have hl0 : w.heap.size < W1.heap.size := by have := hf1.size; omega
  have hl1 : w.heap.size + 1 < W1.heap.size := hf1.size
  have HF := Lib.hid hf1
  clear hf1
  go_wp2_with fail
  have hp2 := Pa.first HF.out part
  refine (DW.out _).mono ?_
  rintro e W2 ⟨rfl, hb2⟩
  have P2 := Lib.hid (hp2.step hb2)
  clear hn hnz he hez hp2 hb2
  have hn := P2.out.fr.n
  have hnz := P2.out.fr.nz
  have he := P2.out.fr.e
  have hez := P2.out.fr.ez
  have hpc := P2.out.cell
  go_wp2_with fail
  have hp3 := P2.out
  refine (DP.out _).mono ?_
  rintro e W3 ⟨rfl, hb3⟩
  have P3 := Lib.hid (hp3.step hb3)
  clear hn hnz he hez hp3 hb3 hpc
  have hn := P3.out.fr.n
  have hnz := P3.out.fr.nz
  have he := P3.out.fr.e
  have hez := P3.out.fr.ez
  have hpc := P3.out.cell
  go_wp2_with fail
  have hp4 := P3.out
  refine (PU.out _).mono ?_
  rintro e W4 ⟨rfl, hb4⟩
  have P4 := Lib.hid (hp4.step hb4)
  clear hn hnz he hez hp4 hb4 hpc
  have hn := P4.out.fr.n
  have hnz := P4.out.fr.nz
  have he := P4.out.fr.e
  have hez := P4.out.fr.ez
  have hpc := P4.out.cell
  go_wp2_with fail
  exact Read_caught _ w W4 rfl rfl rfl P4.out.fr
set_option maxHeartbeats 4000000 in
set_option maxRecDepth 100000 in
theorem Read_big_flat (s rest whole part : ByteArray) (neg pt dw : Bool) (u : Nat) (w : World) (hw : Wf w)
    (C1 : Hid (∀ W, Calls Tryz.prog 25 #[.string s, .string ⟨#[45]⟩] W fun e w' => e = .returned (.tuple #[.string rest, .bool neg]) ∧ W = w'))
    (C2 : Hid (∀ W, Wf W → Calls Tryz.prog 26 #[.string rest, .string ⟨#[46]⟩] W fun e w' => e = .returned (.tuple #[.string whole, .string part, .bool pt]) ∧ Below W.heap.size W w'))
    (DW : Hid (∀ W, Calls Tryz.prog 27 #[.string whole] W fun e w' => e = .returned (.bool dw) ∧ Below W.heap.size W w'))
    (PU : Hid (∀ W, Calls Tryz.prog 29 #[.string whole, .int .i64 10, .int .i64 64] W fun e w' => e = .returned (.tuple #[.int .u64 u, .nilIface]) ∧ Below W.heap.size W w'))
    (hu : 140737488355328 < (u : Int))
    (h : (s.size : Int) ≤ 40) (hdw : dw = true) (hpt : pt = false) :
    Calls Tryz.prog 8 #[.string s] w fun e w' => e = .returned (.tuple #[.int .i64 0, .int .i64 10]) ∧ Below w.heap.size w w' := by
  have HW := Lib.hid hw
  clear hw
  go_enter_defers Tryz.func8, Tryz.ntmps8
  go_wp2_with fail
  refine (C1.out _).mono ?_
  rintro e w' ⟨rfl, rfl⟩
  go_wp2_with fail
  have hf := Fr.first w
  refine (C2.out _ (HW.out.below hf.below)).mono ?_
  rintro e W1 ⟨rfl, hb1⟩
  have hf1 := hf.step hb1
  clear hf hb1
  have hn := hf1.n
  have hnz := hf1.nz
  have he := hf1.e
  have hez := hf1.ez
  have hl0 : w.heap.size < W1.heap.size := by have := hf1.size; omega
  have hl1 : w.heap.size + 1 < W1.heap.size := hf1.size
  have HF := Lib.hid hf1
  clear hf1
  go_wp2_with fail
  have hp2 := Pa.first HF.out part
  refine (DW.out _).mono ?_
  rintro e W2 ⟨rfl, hb2⟩
  have P2 := Lib.hid (hp2.step hb2)
  clear hn hnz he hez hp2 hb2
  have hn := P2.out.fr.n
  have hnz := P2.out.fr.nz
  have he := P2.out.fr.e
  have hez := P2.out.fr.ez
  have hpc := P2.out.cell
  go_wp2_with fail
  have hp4 := P2.out
  refine (PU.out _).mono ?_
  rintro e W4 ⟨rfl, hb4⟩
  have P4 := Lib.hid (hp4.step hb4)
  clear hn hnz he hez hp4 hb4 hpc
  have hn := P4.out.fr.n
  have hnz := P4.out.fr.nz
  have he := P4.out.fr.e
  have hez := P4.out.fr.ez
  have hpc := P4.out.cell
  go_wp2_with fail
  exact Read_caught _ w W4 rfl rfl rfl P4.out.fr
set_option maxHeartbeats 4000000 in
set_option maxRecDepth 100000 in
theorem Read_ok_point (s rest whole part : ByteArray) (neg pt dw dp : Bool) (u m : Nat) (x y : Int) (w : World) (hw : Wf w)
    (C1 : Hid (∀ W, Calls Tryz.prog 25 #[.string s, .string ⟨#[45]⟩] W fun e w' => e = .returned (.tuple #[.string rest, .bool neg]) ∧ W = w'))
    (C2 : Hid (∀ W, Wf W → Calls Tryz.prog 26 #[.string rest, .string ⟨#[46]⟩] W fun e w' => e = .returned (.tuple #[.string whole, .string part, .bool pt]) ∧ Below W.heap.size W w'))
    (DW : Hid (∀ W, Calls Tryz.prog 27 #[.string whole] W fun e w' => e = .returned (.bool dw) ∧ Below W.heap.size W w'))
    (DP : Hid (∀ W, Calls Tryz.prog 27 #[.string part] W fun e w' => e = .returned (.bool dp) ∧ Below W.heap.size W w'))
    (PU : Hid (∀ W, Calls Tryz.prog 29 #[.string whole, .int .i64 10, .int .i64 64] W fun e w' => e = .returned (.tuple #[.int .u64 u, .nilIface]) ∧ Below W.heap.size W w'))
    (SG : Hid (∀ W, Calls Tryz.prog 31 #[.int .u64 m, .bool neg] W fun e w' => (e = .returned (.int .i64 x) ∧ y = 0 ∨ e = .panicked flowPanic ∧ x = 0 ∧ y = 10) ∧ W = w'))
    (HM : Hid (∀ wv V, wv * 10 ^ part.size + V = (u * 10 ^ part.size + val10 part.data.toList) * 2 ^ 16 → V < 10 ^ part.size → m = wv + if 10 ^ part.size ≤ 2 * V then 1 else 0))
    (hu : (u : Int) ≤ 140737488355328) (hps : part.size ≤ 40) (HD : Hid (part.data.toList.all isDig = true))
    (h : (s.size : Int) ≤ 40) (hdw : dw = true) (hpt : pt = true) (hdp : dp = true) :
    Calls Tryz.prog 8 #[.string s] w fun e w' => e = .returned (.tuple #[.int .i64 x, .int .i64 y]) ∧ Below w.heap.size w w' := by
  have HW := Lib.hid hw
  clear hw
  go_enter_defers Tryz.func8, Tryz.ntmps8
  go_wp2_with fail
  refine (C1.out _).mono ?_
  rintro e w' ⟨rfl, rfl⟩
  go_wp2_with fail
  have hf := Fr.first w
  refine (C2.out _ (HW.out.below hf.below)).mono ?_
  rintro e W1 ⟨rfl, hb1⟩
  have hf1 := hf.step hb1
  clear hf hb1
  have hn := hf1.n
  have hnz := hf1.nz
  have he := hf1.e
  have hez := hf1.ez
  have hl0 : w.heap.size < W1.heap.size := by have := hf1.size; omega
  have hl1 : w.heap.size + 1 < W1.heap.size := hf1.size
  have HF := Lib.hid hf1
  clear hf1
  go_wp2_with fail
  have hp2 := Pa.first HF.out part
  refine (DW.out _).mono ?_
  rintro e W2 ⟨rfl, hb2⟩
  have P2 := Lib.hid (hp2.step hb2)
  clear hn hnz he hez hp2 hb2
  have hn := P2.out.fr.n
  have hnz := P2.out.fr.nz
  have he := P2.out.fr.e
  have hez := P2.out.fr.ez
  have hpc := P2.out.cell
  go_wp2_with fail
  have hp3 := P2.out
  refine (DP.out _).mono ?_
  rintro e W3 ⟨rfl, hb3⟩
  have P3 := Lib.hid (hp3.step hb3)
  clear hn hnz he hez hp3 hb3 hpc
  have hn := P3.out.fr.n
  have hnz := P3.out.fr.nz
  have he := P3.out.fr.e
  have hez := P3.out.fr.ez
  have hpc := P3.out.cell
  go_wp2_with fail
  have hp4 := P3.out
  refine (PU.out _).mono ?_
  rintro e W4 ⟨rfl, hb4⟩
  have P4 := Lib.hid (hp4.step hb4)
  clear hn hnz he hez hp4 hb4 hpc
  have hn := P4.out.fr.n
  have hnz := P4.out.fr.nz
  have he := P4.out.fr.e
  have hez := P4.out.fr.ez
  have hpc := P4.out.cell
  have hl4 := P4.out.hi
  have hl5 : w.heap.size < W4.heap.size := by have := P4.out.fr.size; omega
  have hl6 : w.heap.size + 1 < W4.heap.size := P4.out.fr.size
  go_wp2_with fail
  go_loopg [55] part.size (fun g v wr => ∃ (k : Nat) (H : Nat → Nat), g = part.size - k ∧ k ≤ part.size ∧ v = .int .i64 k ∧ Row wr W4.heap.size H ∧ Below W4.heap.size W4 wr ∧ Hid ((∀ j, H j ≤ 9) ∧ ∀ j, j < k → H j = Gl part.data.toList j))
  case atStart =>
    refine ⟨0, fun _ => 0, rfl, Nat.zero_le _, rfl, ?_, (Below.refl _ _).alloc (Nat.le_refl _) _, fun _ => Nat.zero_le _, fun j hj => absurd hj (Nat.not_lt_zero _)⟩
    exact row_zero W4
  case round =>
    obtain ⟨k, H, hg, hk, rfl, hR, hB, HI⟩ := hrel
    have PW := Lib.hid (P4.out.step hB)
    have hpw := PW.out.cell
    clear hn hnz he hez hpc hl5 hl6
    by_cases hlt : k < part.size
    · have hk40 : (k : Int) < 40 := by omega
      have hc1 := (hR k (by omega)).1
      have hc2 := (hR k (by omega)).2
      have hd := Lib.hid (dig_range HD.out hlt)
      have hd1 : (48 : Int) ≤ ((part[k]'hlt).toNat : Int) := by have := hd.out.1; omega
      have hd2 : ((part[k]'hlt).toNat : Int) ≤ 57 := by have := hd.out.2.1; omega
      have HR := Lib.hid hR
      have HB := Lib.hid hB
      have HG := Lib.hid hg
      clear hR hB hg
      go_wp2_with fail
      have hK := HR.out.put k (Gl part.data.toList k)
      have hBn := HB.out.setCell (p := ⟨W4.heap.size, k, none⟩) (Nat.le_refl _) (.int .u8 ((Gl part.data.toList k : Nat) : Int))
      have e1 : ((part[k]'hlt).toNat : Int) - 48 = ((Gl part.data.toList k : Nat) : Int) := by have := hd.out; omega
      go_roundg (part.size - (k + 1))
      case measure => have := HG.out; omega
      case rel =>
        rw [e1]
        refine ⟨k + 1, _, rfl, by omega, by go_num, hK, hBn, fun j => ?_, fun j hj => ?_⟩
        · by_cases e : j = k
          · simp only [e, if_true]; exact Gl_dig HD.out k
          · simp only [if_neg e]; exact HI.out.1 j
        · by_cases e : j = k
          · simp only [e, if_true]
          · simp only [if_neg e]; exact HI.out.2 j (by omega)
    · obtain rfl : k = part.size := by omega
      have S0 : sv H part.size 0 = val10 part.data.toList := by
        rw [← sv_val, ← Lib.size_eq]
        exact sv_congr _ _ (fun j _ h2 => HI.out.2 j (by omega))
      have H9 := HI.out.1
      have S1 := Lib.hid (show u * 10 ^ part.size + sv H part.size 0 = (u * 10 ^ part.size + val10 part.data.toList) * 2 ^ 0 by rw [S0]; simp)
      have HR := Lib.hid hR
      have HB := Lib.hid hB
      have HH := Lib.hid H9
      clear hg hR hB HI S0 H9 hk
      go_wp2_with fail
      go_loopg [9, 66] 16 (fun g v c wr => ∃ (k wv : Nat) (H : Nat → Nat), g = 16 - k ∧ k ≤ 16 ∧ v = .int .u64 wv ∧ c = .int .i64 k ∧ Row wr W4.heap.size H ∧ Below W4.heap.size W4 wr ∧ Hid ((∀ j, H j ≤ 9) ∧ wv * 10 ^ part.size + sv H part.size 0 = (u * 10 ^ part.size + val10 part.data.toList) * 2 ^ k))
      case atStart => exact ⟨0, u, H, rfl, Nat.zero_le _, rfl, rfl, HR.out, HB.out, HH.out, S1.out⟩
      case round =>
        rename_i wr0 _ _
        obtain ⟨k, wv, K, hg, hk, rfl, rfl, hR2, hB2, HI⟩ := hrel
        clear PW hpw
        have PW := Lib.hid (P4.out.step hB2)
        have hpw := PW.out.cell
        have BT := Lib.hid (bit_tells part W1.heap.size W4.heap.size K _ (Nat.ne_of_lt hl4) hps hpw hR2 HI.out.1)
        have hbd := Lib.hid (bits_bound HI.out.2 (by rw [Lib.size_eq]; exact val10_lt _ HD.out) (by omega) hk)
        have HR2 := Lib.hid hR2
        have HB2 := Lib.hid hB2
        have HG := Lib.hid hg
        clear hR2 hB2 hg hpw HR HB HH S1
        by_cases hlt : k < 16
        · have hk16 : (k : Int) < 16 := by omega
          go_wp2_with fail
          refine BT.out.mono ?_
          rintro e W6 ⟨c, K6, rfl, hO6, hR6, h96, h6⟩
          have hc6 := (carry_bit h6 (sv_lt _ _ fun j _ _ => HI.out.1 j) (sv_lt _ _ fun j _ _ => h96 j)).1
          have R6 := Lib.hid hR6
          have O6 := Lib.hid hO6
          have N6 := Lib.hid h96
          have E6 := Lib.hid h6
          have C6 := Lib.hid hc6
          clear hR6 hO6 h96 h6 hc6
          go_wp2_with fail
          have e6 : Go.bits .or .u64 (IntKind.u64.wrap ((wv : Int) * 2)) (c : Int) = ((wv * 2 + c : Nat) : Int) := by
            have hw := bits_bound15 HI.out.2 (by rw [Lib.size_eq]; exact val10_lt _ HD.out) (by omega) (show k ≤ 15 by omega)
            have hc6 := C6.out
            rw [u64in (n := (wv : Int) * 2) (by omega) (by omega)]
            have := or_apart (a := (wv : Int)) (b := (c : Int)) (s := 1) (by omega) (by omega) (by omega) (by omega) (by omega)
            rw [Int.pow_one] at this
            rw [this]; omega
          go_roundg (16 - (k + 1))
          case measure => have := HG.out; omega
          case rel =>
            refine ⟨k + 1, wv * 2 + c, K6, rfl, by omega, by rw [e6], by go_num, R6.out, HB2.out.trans (O6.out.below (Nat.le_refl _)), N6.out, ?_⟩
            exact bits_step HI.out.2 E6.out
        · have hk16 : 16 ≤ (k : Int) := by omega
          go_wp2_with fail
          refine BT.out.mono ?_
          rintro e W6 ⟨c, K6, rfl, hO6, hR6, h96, h6⟩
          have hc6 := carry_bit h6 (sv_lt _ _ fun j _ _ => HI.out.1 j) (sv_lt _ _ fun j _ _ => h96 j)
          have hB6 := HB2.out.trans (hO6.below (Nat.le_refl _))
          have P6 := Lib.hid (P4.out.step hB6)
          have hn := P6.out.fr.n
          have hnz := P6.out.fr.nz
          have he := P6.out.fr.e
          have hez := P6.out.fr.ez
          have C6 := Lib.hid hc6
          clear hO6 hR6 h96 h6 hc6 hB6
          obtain rfl : k = 16 := by omega
          have M6 := Lib.hid (HM.out wv _ HI.out.2 (sv_lt _ _ fun j _ _ => HI.out.1 j))
          have h64 : IntKind.u64.wrap ((wv : Int) + 1) = ((wv + 1 : Nat) : Int) := by
            have := hbd.out
            rw [u64in (by omega) (by omega)]; omega
          have H64 := Lib.hid h64
          clear h64
          by_cases hc1 : c = 1
          · subst hc1
            have em : m = wv + 1 := by
              have := C6.out.2.1 rfl
              rw [M6.out, if_pos this]
            go_wp2_with fail
            rw [H64.out, ← em]
            refine (SG.out _).mono ?_
            rintro e w2 ⟨h | h, rfl⟩
            · obtain ⟨rfl, rfl⟩ := h
              go_wp2_with fail
              exact Read_done _ w _ x 0 rfl rfl rfl ((World.cell?_setCell_other _ _ _ _ (by simp)).trans (World.cell?_setCell_same _ _ _ P6.out.fr.n)) (World.cell?_setCell_same _ _ _ ((World.cell?_setCell_other _ _ _ _ (by simp)).trans P6.out.fr.e)) ((P6.out.fr.below.setCell (Nat.le_refl _) _).setCell (Nat.le_succ _) _)
            · obtain ⟨rfl, rfl, rfl⟩ := h
              exact Read_caught _ w W6 rfl rfl rfl P6.out.fr
          · have em : m = wv := by
              have : ¬ 10 ^ part.size ≤ 2 * sv K part.size 0 := fun h => hc1 (C6.out.2.2 h)
              rw [M6.out, if_neg this, Nat.add_zero]
            have hc2 : ((c : Int) == 1) = false := by simp; omega
            go_wp2_with fail
            rw [← em]
            refine (SG.out _).mono ?_
            rintro e w2 ⟨h | h, rfl⟩
            · obtain ⟨rfl, rfl⟩ := h
              go_wp2_with fail
              exact Read_done _ w _ x 0 rfl rfl rfl ((World.cell?_setCell_other _ _ _ _ (by simp)).trans (World.cell?_setCell_same _ _ _ P6.out.fr.n)) (World.cell?_setCell_same _ _ _ ((World.cell?_setCell_other _ _ _ _ (by simp)).trans P6.out.fr.e)) ((P6.out.fr.below.setCell (Nat.le_refl _) _).setCell (Nat.le_succ _) _)
            · obtain ⟨rfl, rfl, rfl⟩ := h
              exact Read_caught _ w W6 rfl rfl rfl P6.out.fr
set_option maxHeartbeats 4000000 in
set_option maxRecDepth 100000 in
theorem Read_ok_flat (s rest whole part : ByteArray) (neg pt dw : Bool) (u m : Nat) (x y : Int) (w : World) (hw : Wf w)
    (C1 : Hid (∀ W, Calls Tryz.prog 25 #[.string s, .string ⟨#[45]⟩] W fun e w' => e = .returned (.tuple #[.string rest, .bool neg]) ∧ W = w'))
    (C2 : Hid (∀ W, Wf W → Calls Tryz.prog 26 #[.string rest, .string ⟨#[46]⟩] W fun e w' => e = .returned (.tuple #[.string whole, .string part, .bool pt]) ∧ Below W.heap.size W w'))
    (DW : Hid (∀ W, Calls Tryz.prog 27 #[.string whole] W fun e w' => e = .returned (.bool dw) ∧ Below W.heap.size W w'))
    (PU : Hid (∀ W, Calls Tryz.prog 29 #[.string whole, .int .i64 10, .int .i64 64] W fun e w' => e = .returned (.tuple #[.int .u64 u, .nilIface]) ∧ Below W.heap.size W w'))
    (SG : Hid (∀ W, Calls Tryz.prog 31 #[.int .u64 m, .bool neg] W fun e w' => (e = .returned (.int .i64 x) ∧ y = 0 ∨ e = .panicked flowPanic ∧ x = 0 ∧ y = 10) ∧ W = w'))
    (HM : Hid (∀ wv V, wv * 10 ^ part.size + V = (u * 10 ^ part.size + val10 part.data.toList) * 2 ^ 16 → V < 10 ^ part.size → m = wv + if 10 ^ part.size ≤ 2 * V then 1 else 0))
    (hu : (u : Int) ≤ 140737488355328) (hps : part.size ≤ 40) (HD : Hid (part.data.toList.all isDig = true))
    (h : (s.size : Int) ≤ 40) (hdw : dw = true) (hpt : pt = false) :
    Calls Tryz.prog 8 #[.string s] w fun e w' => e = .returned (.tuple #[.int .i64 x, .int .i64 y]) ∧ Below w.heap.size w w' := by
  have HW := Lib.hid hw
  clear hw
  go_enter_defers Tryz.func8, Tryz.ntmps8
  go_wp2_with fail
  refine (C1.out _).mono ?_
  rintro e w' ⟨rfl, rfl⟩
  go_wp2_with fail
  have hf := Fr.first w
  refine (C2.out _ (HW.out.below hf.below)).mono ?_
  rintro e W1 ⟨rfl, hb1⟩
  have hf1 := hf.step hb1
  clear hf hb1
  have hn := hf1.n
  have hnz := hf1.nz
  have he := hf1.e
  have hez := hf1.ez
  have hl0 : w.heap.size < W1.heap.size := by have := hf1.size; omega
  have hl1 : w.heap.size + 1 < W1.heap.size := hf1.size
  have HF := Lib.hid hf1
  clear hf1
  go_wp2_with fail
  have hp2 := Pa.first HF.out part
  refine (DW.out _).mono ?_
  rintro e W2 ⟨rfl, hb2⟩
  have P2 := Lib.hid (hp2.step hb2)
  clear hn hnz he hez hp2 hb2
  have hn := P2.out.fr.n
  have hnz := P2.out.fr.nz
  have he := P2.out.fr.e
  have hez := P2.out.fr.ez
  have hpc := P2.out.cell
  go_wp2_with fail
  have hp4 := P2.out
  refine (PU.out _).mono ?_
  rintro e W4 ⟨rfl, hb4⟩
  have P4 := Lib.hid (hp4.step hb4)
  clear hn hnz he hez hp4 hb4 hpc
  have hn := P4.out.fr.n
  have hnz := P4.out.fr.nz
  have he := P4.out.fr.e
  have hez := P4.out.fr.ez
  have hpc := P4.out.cell
  have hl4 := P4.out.hi
  have hl5 : w.heap.size < W4.heap.size := by have := P4.out.fr.size; omega
  have hl6 : w.heap.size + 1 < W4.heap.size := P4.out.fr.size
  go_wp2_with fail
  go_loopg [55] part.size (fun g v wr => ∃ (k : Nat) (H : Nat → Nat), g = part.size - k ∧ k ≤ part.size ∧ v = .int .i64 k ∧ Row wr W4.heap.size H ∧ Below W4.heap.size W4 wr ∧ Hid ((∀ j, H j ≤ 9) ∧ ∀ j, j < k → H j = Gl part.data.toList j))
  case atStart =>
    refine ⟨0, fun _ => 0, rfl, Nat.zero_le _, rfl, ?_, (Below.refl _ _).alloc (Nat.le_refl _) _, fun _ => Nat.zero_le _, fun j hj => absurd hj (Nat.not_lt_zero _)⟩
    exact row_zero W4
  case round =>
    obtain ⟨k, H, hg, hk, rfl, hR, hB, HI⟩ := hrel
    have PW := Lib.hid (P4.out.step hB)
    have hpw := PW.out.cell
    clear hn hnz he hez hpc hl5 hl6
    by_cases hlt : k < part.size
    · have hk40 : (k : Int) < 40 := by omega
      have hc1 := (hR k (by omega)).1
      have hc2 := (hR k (by omega)).2
      have hd := Lib.hid (dig_range HD.out hlt)
      have hd1 : (48 : Int) ≤ ((part[k]'hlt).toNat : Int) := by have := hd.out.1; omega
      have hd2 : ((part[k]'hlt).toNat : Int) ≤ 57 := by have := hd.out.2.1; omega
      have HR := Lib.hid hR
      have HB := Lib.hid hB
      have HG := Lib.hid hg
      clear hR hB hg
      go_wp2_with fail
      have hK := HR.out.put k (Gl part.data.toList k)
      have hBn := HB.out.setCell (p := ⟨W4.heap.size, k, none⟩) (Nat.le_refl _) (.int .u8 ((Gl part.data.toList k : Nat) : Int))
      have e1 : ((part[k]'hlt).toNat : Int) - 48 = ((Gl part.data.toList k : Nat) : Int) := by have := hd.out; omega
      go_roundg (part.size - (k + 1))
      case measure => have := HG.out; omega
      case rel =>
        rw [e1]
        refine ⟨k + 1, _, rfl, by omega, by go_num, hK, hBn, fun j => ?_, fun j hj => ?_⟩
        · by_cases e : j = k
          · simp only [e, if_true]; exact Gl_dig HD.out k
          · simp only [if_neg e]; exact HI.out.1 j
        · by_cases e : j = k
          · simp only [e, if_true]
          · simp only [if_neg e]; exact HI.out.2 j (by omega)
    · obtain rfl : k = part.size := by omega
      have S0 : sv H part.size 0 = val10 part.data.toList := by
        rw [← sv_val, ← Lib.size_eq]
        exact sv_congr _ _ (fun j _ h2 => HI.out.2 j (by omega))
      have H9 := HI.out.1
      have S1 := Lib.hid (show u * 10 ^ part.size + sv H part.size 0 = (u * 10 ^ part.size + val10 part.data.toList) * 2 ^ 0 by rw [S0]; simp)
      have HR := Lib.hid hR
      have HB := Lib.hid hB
      have HH := Lib.hid H9
      clear hg hR hB HI S0 H9 hk
      go_wp2_with fail
      go_loopg [9, 66] 16 (fun g v c wr => ∃ (k wv : Nat) (H : Nat → Nat), g = 16 - k ∧ k ≤ 16 ∧ v = .int .u64 wv ∧ c = .int .i64 k ∧ Row wr W4.heap.size H ∧ Below W4.heap.size W4 wr ∧ Hid ((∀ j, H j ≤ 9) ∧ wv * 10 ^ part.size + sv H part.size 0 = (u * 10 ^ part.size + val10 part.data.toList) * 2 ^ k))
      case atStart => exact ⟨0, u, H, rfl, Nat.zero_le _, rfl, rfl, HR.out, HB.out, HH.out, S1.out⟩
      case round =>
        rename_i wr0 _ _
        obtain ⟨k, wv, K, hg, hk, rfl, rfl, hR2, hB2, HI⟩ := hrel
        clear PW hpw
        have PW := Lib.hid (P4.out.step hB2)
        have hpw := PW.out.cell
        have BT := Lib.hid (bit_tells part W1.heap.size W4.heap.size K _ (Nat.ne_of_lt hl4) hps hpw hR2 HI.out.1)
        have hbd := Lib.hid (bits_bound HI.out.2 (by rw [Lib.size_eq]; exact val10_lt _ HD.out) (by omega) hk)
        have HR2 := Lib.hid hR2
        have HB2 := Lib.hid hB2
        have HG := Lib.hid hg
        clear hR2 hB2 hg hpw HR HB HH S1
        by_cases hlt : k < 16
        · have hk16 : (k : Int) < 16 := by omega
          go_wp2_with fail
          refine BT.out.mono ?_
          rintro e W6 ⟨c, K6, rfl, hO6, hR6, h96, h6⟩
          have hc6 := (carry_bit h6 (sv_lt _ _ fun j _ _ => HI.out.1 j) (sv_lt _ _ fun j _ _ => h96 j)).1
          have R6 := Lib.hid hR6
          have O6 := Lib.hid hO6
          have N6 := Lib.hid h96
          have E6 := Lib.hid h6
          have C6 := Lib.hid hc6
          clear hR6 hO6 h96 h6 hc6
          go_wp2_with fail
          have e6 : Go.bits .or .u64 (IntKind.u64.wrap ((wv : Int) * 2)) (c : Int) = ((wv * 2 + c : Nat) : Int) := by
            have hw := bits_bound15 HI.out.2 (by rw [Lib.size_eq]; exact val10_lt _ HD.out) (by omega) (show k ≤ 15 by omega)
            have hc6 := C6.out
            rw [u64in (n := (wv : Int) * 2) (by omega) (by omega)]
            have := or_apart (a := (wv : Int)) (b := (c : Int)) (s := 1) (by omega) (by omega) (by omega) (by omega) (by omega)
            rw [Int.pow_one] at this
            rw [this]; omega
          go_roundg (16 - (k + 1))
          case measure => have := HG.out; omega
          case rel =>
            refine ⟨k + 1, wv * 2 + c, K6, rfl, by omega, by rw [e6], by go_num, R6.out, HB2.out.trans (O6.out.below (Nat.le_refl _)), N6.out, ?_⟩
            exact bits_step HI.out.2 E6.out
        · have hk16 : 16 ≤ (k : Int) := by omega
          go_wp2_with fail
          refine BT.out.mono ?_
          rintro e W6 ⟨c, K6, rfl, hO6, hR6, h96, h6⟩
          have hc6 := carry_bit h6 (sv_lt _ _ fun j _ _ => HI.out.1 j) (sv_lt _ _ fun j _ _ => h96 j)
          have hB6 := HB2.out.trans (hO6.below (Nat.le_refl _))
          have P6 := Lib.hid (P4.out.step hB6)
          have hn := P6.out.fr.n
          have hnz := P6.out.fr.nz
          have he := P6.out.fr.e
          have hez := P6.out.fr.ez
          have C6 := Lib.hid hc6
          clear hO6 hR6 h96 h6 hc6 hB6
          obtain rfl : k = 16 := by omega
          have M6 := Lib.hid (HM.out wv _ HI.out.2 (sv_lt _ _ fun j _ _ => HI.out.1 j))
          have h64 : IntKind.u64.wrap ((wv : Int) + 1) = ((wv + 1 : Nat) : Int) := by
            have := hbd.out
            rw [u64in (by omega) (by omega)]; omega
          have H64 := Lib.hid h64
          clear h64
          by_cases hc1 : c = 1
          · subst hc1
            have em : m = wv + 1 := by
              have := C6.out.2.1 rfl
              rw [M6.out, if_pos this]
            go_wp2_with fail
            rw [H64.out, ← em]
            refine (SG.out _).mono ?_
            rintro e w2 ⟨h | h, rfl⟩
            · obtain ⟨rfl, rfl⟩ := h
              go_wp2_with fail
              exact Read_done _ w _ x 0 rfl rfl rfl ((World.cell?_setCell_other _ _ _ _ (by simp)).trans (World.cell?_setCell_same _ _ _ P6.out.fr.n)) (World.cell?_setCell_same _ _ _ ((World.cell?_setCell_other _ _ _ _ (by simp)).trans P6.out.fr.e)) ((P6.out.fr.below.setCell (Nat.le_refl _) _).setCell (Nat.le_succ _) _)
            · obtain ⟨rfl, rfl, rfl⟩ := h
              exact Read_caught _ w W6 rfl rfl rfl P6.out.fr
          · have em : m = wv := by
              have : ¬ 10 ^ part.size ≤ 2 * sv K part.size 0 := fun h => hc1 (C6.out.2.2 h)
              rw [M6.out, if_neg this, Nat.add_zero]
            have hc2 : ((c : Int) == 1) = false := by simp; omega
            go_wp2_with fail
            rw [← em]
            refine (SG.out _).mono ?_
            rintro e w2 ⟨h | h, rfl⟩
            · obtain ⟨rfl, rfl⟩ := h
              go_wp2_with fail
              exact Read_done _ w _ x 0 rfl rfl rfl ((World.cell?_setCell_other _ _ _ _ (by simp)).trans (World.cell?_setCell_same _ _ _ P6.out.fr.n)) (World.cell?_setCell_same _ _ _ ((World.cell?_setCell_other _ _ _ _ (by simp)).trans P6.out.fr.e)) ((P6.out.fr.below.setCell (Nat.le_refl _) _).setCell (Nat.le_succ _) _)
            · obtain ⟨rfl, rfl, rfl⟩ := h
              exact Read_caught _ w W6 rfl rfl rfl P6.out.fr

/-! ### All ways -/
theorem ParseUint_ok (l : List UInt8) (hl : l.length ≤ 100000) (hd : allDig l = true) (hv : val10 l < 18446744073709551616) (W : World) :
    Calls Tryz.prog 29 #[.string ⟨l.toArray⟩, .int .i64 10, .int .i64 64] W fun e w' => e = .returned (.tuple #[.int .u64 (val10 l), .nilIface]) ∧ Below W.heap.size W w' := by
  refine (Tryz.strconv_ParseUint_10_at64_ok ⟨l.toArray⟩ (by rw [size_of]; omega) (val10 l) (by show Lib.parseUintB 64 l = _; rw [parse_whole hd, if_pos hv]) W).mono ?_
  rintro e w' ⟨rfl, h | h⟩
  · rw [h]; exact ⟨rfl, Below.refl _ _⟩
  · rw [h]; exact ⟨rfl, Lib.bytesWorld_below W 5 _⟩
theorem ParseUint_range (l : List UInt8) (hl : l.length ≤ 100000) (hd : allDig l = true) (hv : ¬ val10 l < 18446744073709551616) (W : World) (hW : Wf W) :
    Calls Tryz.prog 29 #[.string ⟨l.toArray⟩, .int .i64 10, .int .i64 64] W fun e w' => (∃ N, e = .returned (.tuple #[.int .u64 18446744073709551615, .iface 111 (.pointer (some ⟨N, 0, none⟩))])) ∧ Below W.heap.size W w' := by
  obtain ⟨tp, p, hr⟩ := hW.range
  refine (Tryz.strconv_ParseUint_10_at64_range_var ⟨l.toArray⟩ (by rw [size_of]; omega) (by show Lib.parseUintB 64 l = _; rw [parse_whole hd, if_neg hv]) tp p W hr).mono ?_
  rintro e w' ⟨N, rfl, _, _, hb⟩
  exact ⟨⟨N, rfl⟩, hb⟩
theorem parts_long {l p : List UInt8} (hv : 140737488355329 ≤ val10 l) (neg : Bool) : flow (withSign neg (magR l p)) = (0, 10) := by
  have hp : 0 < 10 ^ p.length := Nat.pow_pos (by decide)
  have h1 : 140737488355329 * 65536 ≤ val10 (l ++ p) * 65536 / 10 ^ p.length := by
    rw [Nat.le_div_iff_mul_le hp, val10_append]
    have := Nat.mul_le_mul_right (10 ^ p.length) hv
    omega
  have h2 : 140737488355329 * 65536 ≤ magR l p := by unfold magR; omega
  generalize magR l p = m at *
  unfold withSign
  cases neg
  · exact flow_over (by simp; omega)
  · exact flow_over (by simp; omega)
theorem part_none {s : List UInt8} (h : pointOf s = false) : partOf s = [] := by
  unfold pointOf at h
  unfold partOf
  cases hc : (cutAt 46 (restOf s)).2 with
  | none => rfl
  | some x => rw [hc] at h; simp at h
theorem Read_tells (s : ByteArray) (hs : s.size ≤ 100000) (w : World) (hw : Wf w) :
    Calls Tryz.prog 8 #[.string s] w fun e w' => e = .returned (.tuple #[.int .i64 (read s.data.toList).1, .int .i64 (read s.data.toList).2]) ∧ Below w.heap.size w w' := by
  obtain ⟨S, hS⟩ : ∃ S, S = s.data.toList := ⟨_, rfl⟩
  have hl : S.length = s.size := by rw [hS, Lib.size_eq]
  have hrl := rest_le S
  have hcl := cut_le 46 (restOf S)
  have hwl : (wholeOf S).length ≤ s.size := by unfold wholeOf; omega
  have hpl : (partOf S).length ≤ s.size := by unfold partOf; omega
  have C1 := Lib.hid (fun W => CutPrefix_tells s W)
  rw [← hS] at C1
  have C2 : Hid (∀ W, Wf W → Calls Tryz.prog 26 #[.string ⟨(restOf S).toArray⟩, .string ⟨#[46]⟩] W fun e w' => e = .returned (.tuple #[.string ⟨(wholeOf S).toArray⟩, .string ⟨(partOf S).toArray⟩, .bool (pointOf S)]) ∧ Below W.heap.size W w') :=
    fun W hW => Cut_tells ⟨(restOf S).toArray⟩ (by rw [size_of]; omega) W hW
  have DW : Hid (∀ W, Calls Tryz.prog 27 #[.string ⟨(wholeOf S).toArray⟩] W fun e w' => e = .returned (.bool (allDig (wholeOf S))) ∧ Below W.heap.size W w') :=
    fun W => digits_tells ⟨(wholeOf S).toArray⟩ (by rw [size_of]; omega) W
  have DP : Hid (∀ W, Calls Tryz.prog 27 #[.string ⟨(partOf S).toArray⟩] W fun e w' => e = .returned (.bool (allDig (partOf S))) ∧ Below W.heap.size W w') :=
    fun W => digits_tells ⟨(partOf S).toArray⟩ (by rw [size_of]; omega) W
  rw [← hS]
  unfold read goodText
  rw [hl]
  by_cases h40 : s.size ≤ 40
  · rw [show decide (s.size ≤ 40) = true by simpa using h40, Bool.true_and]
    cases hdw : allDig (wholeOf S)
    · rw [Bool.false_and, if_neg (by simp)]
      rw [hdw] at DW
      exact Read_whole s _ _ _ _ _ _ w hw C1 C2 DW (by omega) rfl
    · rw [Bool.true_and]
      rw [hdw] at DW
      have hpd : pointOf S = true → allDig (partOf S) = false → Calls Tryz.prog 8 #[.string s] w fun e w' => e = .returned (.tuple #[.int .i64 0, .int .i64 2]) ∧ Below w.heap.size w w' := fun hpt hdp =>
        Read_part s _ _ _ _ _ _ _ w hw C1 C2 DW DP (by omega) rfl hpt hdp
      have good : (pointOf S = true → allDig (partOf S) = true) → Calls Tryz.prog 8 #[.string s] w fun e w' => e = .returned (.tuple #[.int .i64 (flow (withSign (negOf S) (magR (wholeOf S) (partOf S)))).1, .int .i64 (flow (withSign (negOf S) (magR (wholeOf S) (partOf S)))).2]) ∧ Below w.heap.size w w' := by
        intro hdp
        have HD : Hid ((partOf S).all isDig = true) := by
          show _ = true
          cases hpt : pointOf S
          · rw [part_none hpt]; rfl
          · have := hdp hpt
            unfold allDig at this
            rw [Bool.and_eq_true] at this
            exact this.2
        by_cases hv : val10 (wholeOf S) < 18446744073709551616
        · have PU := Lib.hid (fun W => ParseUint_ok (wholeOf S) (by omega) hdw hv W)
          by_cases hu : 140737488355328 < val10 (wholeOf S)
          · rw [parts_long (by omega)]
            cases hpt : pointOf S
            · rw [hpt] at C2
              exact Read_big_flat s _ _ _ _ _ _ (val10 (wholeOf S)) w hw C1 C2 DW PU (by omega) (by omega) rfl rfl
            · rw [hpt] at C2
              exact Read_big_point s _ _ _ _ _ _ _ (val10 (wholeOf S)) w hw C1 C2 DW DP PU (by omega) (by omega) rfl rfl (hdp hpt)
          · have SG := Lib.hid (fun W => signed_any (magR (wholeOf S) (partOf S)) (negOf S) W)
            have HM : Hid (∀ wv V, wv * 10 ^ (⟨(partOf S).toArray⟩ : ByteArray).size + V = (val10 (wholeOf S) * 10 ^ (⟨(partOf S).toArray⟩ : ByteArray).size + val10 (partOf S)) * 2 ^ 16 → V < 10 ^ (⟨(partOf S).toArray⟩ : ByteArray).size → magR (wholeOf S) (partOf S) = wv + if 10 ^ (⟨(partOf S).toArray⟩ : ByteArray).size ≤ 2 * V then 1 else 0) := by
              intro wv V h1 h2
              rw [size_of] at h1 h2 ⊢
              obtain ⟨e1, e2⟩ := bits_done h1 h2
              unfold magR
              rw [val10_append, e1, e2]
            cases hpt : pointOf S
            · rw [hpt] at C2
              exact Read_ok_flat s _ _ _ _ _ _ (val10 (wholeOf S)) _ _ _ w hw C1 C2 DW PU SG HM (by omega) (by rw [size_of]; omega) HD (by omega) rfl rfl
            · rw [hpt] at C2
              exact Read_ok_point s _ _ _ _ _ _ _ (val10 (wholeOf S)) _ _ _ w hw C1 C2 DW DP PU SG HM (by omega) (by rw [size_of]; omega) HD (by omega) rfl rfl (hdp hpt)
        · have PU := Lib.hid (fun W hW => ParseUint_range (wholeOf S) (by omega) hdw hv W hW)
          rw [parts_long (by omega)]
          cases hpt : pointOf S
          · rw [hpt] at C2
            exact Read_range_flat s _ _ _ _ _ _ w hw C1 C2 DW PU (by omega) rfl rfl
          · rw [hpt] at C2
            exact Read_range_point s _ _ _ _ _ _ _ w hw C1 C2 DW DP PU (by omega) rfl rfl (hdp hpt)
      cases hpt : pointOf S
      · rw [Bool.not_false, Bool.true_or, if_pos rfl]
        exact good (fun h => by rw [hpt] at h; exact absurd h (by simp))
      · rw [Bool.not_true, Bool.false_or]
        cases hdp : allDig (partOf S)
        · rw [if_neg (by simp)]
          exact hpd hpt hdp
        · rw [if_pos rfl]
          exact good (fun _ => hdp)
  · rw [show decide (s.size ≤ 40) = false by simpa using h40, Bool.false_and, Bool.false_and, if_neg (by simp)]
    exact Read_long s _ _ _ _ _ w hw C1 C2 (by omega)
end Go.Proofs.YtfhadnhpognefaaGreatDoor.Fx
