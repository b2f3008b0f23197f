/- Reading decimals: what the program's closures and helpers return. -/
import Derived.Test.YtfhadnhpognefaaGreatDoorFxProg
import Derived.Test.YtfhadnhpognefaaGreatDoorFxRead
import Derived.Deep.LoopGhost
namespace Go.Proofs.YtfhadnhpognefaaGreatDoor.Fx
open Go Go.RowKit

theorem digits_trim (s t : ByteArray) (b : Bool) (w : World) (hs : ¬ s.toList = []) (ht : t.toList.isEmpty = b)
    (TR : Hid (∀ W, Calls Tryz.prog 54 #[.string s, .string ⟨#[48, 49, 50, 51, 52, 53, 54, 55, 56, 57]⟩] W fun e w' => e = .returned (.string t) ∧ Below W.heap.size W w')) :
    Calls Tryz.prog 27 #[.string s] w fun e w' => e = .returned (.bool b) ∧ Below w.heap.size w w' := by
  go_enter Tryz.func27, Tryz.ntmps27
  go_wp2_with fail
  refine (TR.out _).mono ?_
  rintro e w' ⟨rfl, hb⟩
  go_wp2
  go_ret
  have e : (!s.toList.isEmpty && b) = b := by
    rw [show s.toList.isEmpty = false by cases h : s.toList <;> simp_all]; rfl
  exact ⟨by show Ending.returned (Value.bool (!s.toList.isEmpty && b)) = _; rw [e], hb⟩
theorem digits_none (s : ByteArray) (w : World) (hs : s.toList = []) :
    Calls Tryz.prog 27 #[.string s] w fun e w' => e = .returned (.bool false) ∧ Below w.heap.size w w' := by
  go_enter Tryz.func27, Tryz.ntmps27
  go_wp2
  go_ret
  exact ⟨rfl, Below.refl _ _⟩
theorem digits_tells (s : ByteArray) (hs : s.size ≤ 1000000) (w : World) :
    Calls Tryz.prog 27 #[.string s] w fun e w' => e = .returned (.bool (allDig s.data.toList)) ∧ Below w.heap.size w w' := by
  have HT := trim_none s.data.toList
  by_cases he : s.toList = []
  · have e : allDig s.data.toList = false := by rw [← Lib.toList_data, he]; rfl
    rw [e]; exact digits_none s w he
  · have e : (⟨(Lib.trimS s.data.toList tens).toArray⟩ : ByteArray).toList.isEmpty = allDig s.data.toList := by
      rw [Lib.toList_data] at he
      rw [Lib.toList_data]
      unfold allDig
      rw [show s.data.toList.isEmpty = false by cases h : s.data.toList <;> simp_all, Bool.not_false, Bool.true_and]
      show (Lib.trimS s.data.toList tens).isEmpty = _
      rw [Bool.eq_iff_iff, List.isEmpty_iff]
      exact HT
    exact digits_trim s _ _ w he e (Lib.hid (fun W => Tryz.strings_Trim s ⟨#[48, 49, 50, 51, 52, 53, 54, 55, 56, 57]⟩ W (by omega) (by decide) (ascii_of_all (by decide))))

/-! ### One bit of the part: twice its digits, and what runs over -/
/-- All but one block stands as it stood. -/
structure Only (b : Nat) (W W' : World) : Prop where
  os : W'.os = W.os
  tape : W'.tape = W.tape
  output : W'.output = W.output
  size : W'.heap.size = W.heap.size
  block : ∀ k, k ≠ b → W'.heap[k]? = W.heap[k]?
theorem Only.refl (b : Nat) (W : World) : Only b W W := ⟨rfl, rfl, rfl, rfl, fun _ _ => rfl⟩
theorem Only.trans {b : Nat} {A B C : World} (h : Only b A B) (k : Only b B C) : Only b A C :=
  ⟨k.os.trans h.os, k.tape.trans h.tape, k.output.trans h.output, k.size.trans h.size, fun j hj => (k.block j hj).trans (h.block j hj)⟩
theorem Only.drew {b : Nat} {A B : World} (h : Only b A B) : Only b A B.drew := ⟨h.os, h.tape, h.output, h.size, h.block⟩
theorem Only.setCell {b : Nat} {A B : World} (h : Only b A B) {p : Addr} (hp : p.block = b) (v : Value) : Only b A (B.setCell p v) :=
  ⟨h.os, h.tape, h.output, by rw [← h.size]; simp [World.setCell], fun k hk => (Below.heap_setCell _ _ _ _ (fun e => hk (e.trans hp))).trans (h.block k hk)⟩
theorem Only.cell {b : Nat} {A B : World} (h : Only b A B) {p : Addr} (hp : p.block ≠ b) : B.cell? p = A.cell? p := World.cell?_of_block (w := A) (h.block p.block hp)
theorem Only.frozen {b : Nat} {A B : World} (h : Only b A B) {p : Addr} (hp : p.block ≠ b) : B.frozen? p = A.frozen? p := World.frozen?_of_block (w := A) (h.block p.block hp)
theorem Only.below {b N : Nat} {A B : World} (h : Only b A B) (hb : N ≤ b) : Below N A B := ⟨h.os, h.tape, h.output, by rw [h.size]; exact Nat.le_refl _, fun k hk => h.block k (by omega)⟩
/-- A row of forty digits. -/
def Row (W : World) (b : Nat) (G : Nat → Nat) : Prop := ∀ j, j < 40 → W.cell? ⟨b, j, none⟩ = some (.int .u8 (G j)) ∧ W.frozen? ⟨b, j, none⟩ = false
theorem Row.put {W : World} {b : Nat} {G : Nat → Nat} (h : Row W b G) (i : Nat) (v : Nat) : Row (W.setCell ⟨b, i, none⟩ (.int .u8 v)) b (fun j => if j = i then v else G j) := by
  intro j hj
  refine ⟨?_, (World.frozen?_setCell _ _ _ _).trans (h j hj).2⟩
  by_cases e : j = i
  · subst e
    simp only [if_true]
    exact World.cell?_setCell_same _ _ _ (h j hj).1
  · simp only [if_neg e]
    exact (World.cell?_setCell_other _ _ _ _ (by simp <;> omega)).trans (h j hj).1

set_option maxHeartbeats 1000000 in
set_option maxRecDepth 100000 in
theorem bit_tells (s : ByteArray) (bp bd : Nat) (G : Nat → Nat) (W : World) (hne : bp ≠ bd) (hs : s.size ≤ 40) (hp : W.cell? ⟨bp, 0, none⟩ = some (.string s)) (hG : Row W bd G) (h9 : ∀ j, G j ≤ 9) :
    Calls Tryz.prog 30 #[.pointer (some ⟨bp, 0, none⟩), .pointer (some ⟨bd, 0, none⟩)] W fun e w' => ∃ (c : Nat) (H : Nat → Nat), e = .returned (.int .u64 c) ∧ Only bd W w' ∧ Row w' bd H ∧ (∀ j, H j ≤ 9) ∧ sv H s.size 0 + c * 10 ^ s.size = 2 * sv G s.size 0 := by
  have hs0 : (s.size : Int) ≤ 40 := by omega
  go_enter Tryz.func30, Tryz.ntmps30
  go_wp2_with fail
  go_loopg [3, 4, 5] s.size (fun g c i x wr => ∃ (cv : Nat) (H : Nat → Nat), g ≤ s.size ∧ c = .int .u8 cv ∧ i = .int .i64 ((g : Int) - 1) ∧ Row wr bd H ∧ Only bd W wr ∧ Hid (cv ≤ 1 ∧ (∀ j, H j ≤ 9) ∧ (∀ j, j < g → H j = G j) ∧ sv H (s.size - g) g + cv * 10 ^ (s.size - g) = 2 * sv G (s.size - g) g))
  case atStart =>
    refine ⟨0, G, Nat.le_refl _, rfl, rfl, hG, Only.refl _ _, by omega, h9, fun _ _ => rfl, ?_⟩
    rw [Nat.sub_self]; rfl
  case round =>
    obtain ⟨cv, H, hg, rfl, rfl, hR, hO, HI⟩ := hrel
    have hpp : wr.cell? ⟨bp, 0, none⟩ = some (.string s) := (hO.cell (p := ⟨bp, 0, none⟩) hne).trans hp
    by_cases hz : gk = 0
    · subst hz
      clear hG h9 hp
      go_wp2_with fail
      go_ret
      obtain ⟨h1, h2, _, h4⟩ := HI.out
      refine ⟨cv, H, ?_, hO, hR, h2, by simpa using h4⟩
      show Ending.returned (Value.int IntKind.u64 (IntKind.u64.wrap (cv : Int))) = _
      rw [u64in (by omega) (by omega)]
    · obtain ⟨m, rfl⟩ : ∃ m, gk = m + 1 := ⟨gk - 1, by omega⟩
      have hm : (m : Int) < 40 := by omega
      have hc1 := (hR m (by omega)).1
      have hc2 := (hR m (by omega)).2
      have hcv : (cv : Int) ≤ 1 := by have := HI.out.1; omega
      have hHm : (H m : Int) ≤ 9 := by have := HI.out.2.1 m; omega
      have HR := Lib.hid hR
      have HO := Lib.hid hO
      have HP := Lib.hid hpp
      clear hG h9 hp hR hO hs hz
      go_wp2_with fail
      obtain ⟨h1, h2, h3, h4⟩ := HI.out
      have hK := HR.out.put m ((2 * H m + cv) % 10)
      have hOn := HO.out.setCell (p := ⟨bd, m, none⟩) rfl (.int .u8 (((2 * H m + cv) % 10 : Nat) : Int))
      have e1 : (2 * (H m : Int) + cv) % 10 = (((2 * H m + cv) % 10 : Nat) : Int) := by omega
      have e2 : (2 * (H m : Int) + cv) / 10 = (((2 * H m + cv) / 10 : Nat) : Int) := by omega
      go_roundg m
      case measure => omega
      case rel =>
        rw [e1]
        refine ⟨(2 * H m + cv) / 10, _, by omega, by rw [e2], rfl, hK, hOn, ?_⟩
        have h2m := h2 m
        refine ⟨by omega, fun j => ?_, fun j hj => ?_, ?_⟩
        · by_cases e : j = m
          · simp only [e, if_true]; omega
          · simp only [if_neg e]; exact h2 j
        · simp only [if_neg (show ¬ j = m by omega)]
          exact h3 j (by omega)
        · have hd := double_digit (G := G) (H := H) (K := fun j => if j = m then (2 * H m + cv) % 10 else H j) (n := s.size - (m + 1)) (i := m) (c := cv) (by simp only [if_true]; rw [h3 m (by omega)]) (fun j hj => by simp only [if_neg (show ¬ j = m by omega)]) h4
          rw [show s.size - (m + 1) + 1 = s.size - m by omega] at hd
          rw [h3 m (by omega)]
          rw [h3 m (by omega)] at hd
          exact hd
end Go.Proofs.YtfhadnhpognefaaGreatDoor.Fx
