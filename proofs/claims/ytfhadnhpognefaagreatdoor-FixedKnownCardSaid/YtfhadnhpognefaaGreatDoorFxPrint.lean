/- What the program prints of a number of scaled points. -/
import Derived.Test.YtfhadnhpognefaaGreatDoorFxUint
import Derived.Test.YtfhadnhpognefaaGreatDoorFxBuild
import Derived.Deep.LoopGhost
namespace Go.Proofs.YtfhadnhpognefaaGreatDoor.Fx
open Go Go.RowKit

theorem tab_below {w W : World} {P : Program} {name : String} {k : IntKind} {zs : List Int} (h : Lib.TabIs P w name k zs) (hb : Below w.heap.size w W) : Lib.TabIs P W name k zs := by
  unfold Lib.TabIs World.var? at *
  rcases hg : P.globalNamed name with _ | g
  · rw [hg] at h; simp at h
  · rw [hg] at h
    simp only [Option.bind_some] at h ⊢
    by_cases hl : g < w.heap.size
    · rw [hb.block g hl]; exact h
    · rw [Array.getElem?_eq_none (Nat.le_of_not_lt hl)] at h
      simp at h
theorem calls_args {P : Program} {f : FuncId} {args args' : Array Value} {w : World} {Q : Ending → World → Prop} (h : args = args') (hc : Calls P f args' w Q) : Calls P f args w Q := h ▸ hc
theorem builder_below {T e : TypeId} {B b : Nat} {p : Value} {bs : List Value} {W W' : World} (h : Lib.BuilderAt T e B b p bs W) (hb : Below W.heap.size W W') : Lib.BuilderAt T e B b p bs W' := by
  have hl := h.lt
  obtain ⟨hB, v, hbk, hown, hne⟩ := h
  exact ⟨hB, v, (hb.block b hl).trans hbk, hown.kept (row := none) ⟨hb.os, hb.tape, hb.output, hb.size, fun k hk _ => hb.block k hk⟩ (Classical.em _), hne⟩
theorem isBuilder_below {T e : TypeId} {B b : Nat} {bs : List Value} {W W' : World} (h : Lib.IsBuilder T e B b bs W) (hb : Below W.heap.size W W') : Lib.IsBuilder T e B b bs W' :=
  h.elim (fun h => Or.inl (builder_below h hb)) (fun h => Or.inr (builder_below h hb))
theorem digits_small (u : Nat) (h : u < 18446744073709551616) : (Lib.decDigits u).length ≤ 20 := by
  rw [Lib.decDigits_length]
  by_cases h1 : 1 ≤ u
  · have := Lib.numDigits_eq u h1 h; split at this <;> omega
  · obtain rfl : u = 0 := by omega
    rw [Lib.nDigits_small (by decide)]; decide
theorem cells_text (a b : List UInt8) : Lib.byteCells a ++ Lib.strCells ⟨b.toArray⟩ = Lib.byteCells (a ++ b) := by
  rw [Lib.strCells_toArray]; simp [Lib.byteCells]
theorem cells_snoc (a : List UInt8) (c : UInt8) : Lib.byteCells a ++ [Value.int .u8 (c.toNat : Int)] = Lib.byteCells (a ++ [c]) := by
  simp [Lib.byteCells]
theorem cells_length (a : List UInt8) : (Lib.byteCells a).length = a.length := by simp [Lib.byteCells]
theorem frac_step {g r : Nat} (h : r ≠ 0) : frac (g + 1) r = UInt8.ofNat (48 + r * 10 / 65536) :: frac g (r * 10 % 65536) := by
  rw [frac, if_neg h]
theorem frac_nil (g : Nat) : frac g 0 = [] := by cases g <;> simp [frac]
theorem frac_left {g r : Nat} (h : r * 2 ^ (g + 1) % 65536 = 0) : (r * 10 % 65536) * 2 ^ g % 65536 = 0 := by
  rw [Nat.mod_mul_mod]
  rw [Nat.pow_succ, ← Nat.mul_assoc] at h
  have e := Nat.mul_right_comm r 10 (2 ^ g)
  omega
theorem frac_byte {r : Nat} (h : r < 65536) : ((UInt8.ofNat (48 + r * 10 / 65536)).toNat : Int) = 48 + (r : Int) * 10 / 65536 := by
  have e : (r : Int) * 10 / 65536 = ((r * 10 / 65536 : Nat) : Int) := by omega
  have h2 : r * 10 / 65536 < 10 := by omega
  rw [e, UInt8.toNat_ofNat']
  generalize r * 10 / 65536 = q at *
  omega
set_option maxHeartbeats 2000000 in
set_option maxRecDepth 100000 in
theorem Print_tells (n : Int) (h0 : -9223372036854775808 ≤ n) (h1 : n ≤ 9223372036854775807) (w : World) (htab : Lib.TabIs Tryz.prog w "internal/strconv.uint64pow10" .u64 Lib.pow10Tab) :
    Calls Tryz.prog 6 #[.int .i64 n] w fun e w' => e = .returned (.string ⟨(print n).toArray⟩) ∧ Below w.heap.size w w' := by
  have i0 := Lib.fresh_isBuilder 43 5 w
  have b0 : Below w.heap.size w (w.alloc (.cells #[.pointer none, .slice none 0 0] 43)) := (Below.refl _ w).alloc (Nat.le_refl _) _
  have SZ := Lib.hid (size_any n h0 h1)
  have hA : n.natAbs < 18446744073709551616 := by omega
  have hD := Lib.hid (show n.natAbs / 65536 < 18446744073709551616 by omega)
  have e1 := Lib.hid (show (#[.int .u64 ((n.natAbs : Int) / 65536), .int .i64 10] : Array Value) = #[.int .u64 ((n.natAbs / 65536 : Nat) : Int), .int .i64 10] by rw [show ((n.natAbs / 65536 : Nat) : Int) = (n.natAbs : Int) / 65536 by omega])
  have hlen : Hid ((sign n).length + (Lib.decDigits (n.natAbs / 65536)).length ≤ 21) := by
    have := digits_small (n.natAbs / 65536) hD.out
    show _ ≤ _
    unfold sign; split <;> simp <;> omega
  have PR : Hid (print n = sign n ++ Lib.decDigits (n.natAbs / 65536) ++ point (n.natAbs % 65536)) := rfl
  by_cases hn : n < 0
  all_goals
    clear h0 h1
    by_cases hr : (0 : Int) < (n.natAbs : Int) % 65536
  all_goals
    go_enter Tryz.func6, Tryz.ntmps6
    go_wp2_with fail
  all_goals first
    | (go_at_call 18
       refine (Builder_WriteByte w.heap.size w.heap.size [] 45 _ i0 (by simp) (by simp)).mono ?_
       rintro e W1 ⟨rfl, i1', b1⟩
       have i1 : Lib.IsBuilder 43 5 w.heap.size w.heap.size (Lib.byteCells (sign n)) W1 := by
         unfold sign; rw [if_pos hn]; exact Or.inr i1'
       have bb := b0.trans b1
       clear i1' b1
       go_wp2_with fail)
    | (go_at_call 19
       have i1 : Lib.IsBuilder 43 5 w.heap.size w.heap.size (Lib.byteCells (sign n)) (w.alloc (.cells #[.pointer none, .slice none 0 0] 43)) := by
         unfold sign; rw [if_neg (by omega)]; exact i0
       have bb := b0)
  all_goals
    refine (SZ.out _).mono ?_; rintro e w' ⟨rfl, rfl⟩
    go_wp2_with fail
    have T1 := tab_below htab bb
    refine calls_args e1.out ((FormatUint_tells (n.natAbs / 65536) hD.out _ T1).mono ?_)
    rintro e W2 ⟨rfl, b2⟩
    have i2 := isBuilder_below i1 b2
    have bc : Below w.heap.size w W2 := bb.trans (b2.mono bb.size)
    go_wp2_with fail
    refine (Builder_WriteString w.heap.size w.heap.size _ _ _ i2 ?_ bc.size).mono ?_
    · rw [cells_length]
      have := hlen.out
      show _ + (Lib.decDigits (n.natAbs / 65536)).length ≤ _
      omega
    rintro e W3 ⟨rfl, i3, b3⟩
    rw [cells_text] at i3
    have bd := bc.trans b3
    clear i0 b0 i1 bb T1 b2 i2 bc b3
    go_wp2_with fail
  all_goals first
    | (go_at_call 18
       refine (Builder_WriteByte w.heap.size w.heap.size _ 46 _ (Or.inr i3) ?_ bd.size).mono ?_
       · rw [cells_length]
         have := hlen.out
         rw [List.length_append]; omega
       rintro e W4 ⟨rfl, i4, b4⟩
       have be := bd.trans b4
       have i5 : Lib.IsBuilder 43 5 w.heap.size w.heap.size (Lib.byteCells (sign n ++ Lib.decDigits (n.natAbs / 65536) ++ [46])) W4 := by
         rw [← cells_snoc]; exact Or.inr i4
       have LK : Hid (print n = sign n ++ Lib.decDigits (n.natAbs / 65536) ++ [46] ++ frac 16 (n.natAbs % 65536)) := by
         rw [PR.out]; unfold point
         rw [if_neg (by omega), List.append_assoc (sign n ++ Lib.decDigits (n.natAbs / 65536)) [46]]; rfl
       have LL : Hid ((sign n ++ Lib.decDigits (n.natAbs / 65536) ++ [46]).length ≤ 30) := by
         have := hlen.out
         show _ ≤ _
         rw [List.length_append, List.length_append]
         show _ + 1 ≤ _
         omega
       clear i3 bd b4 i4
       go_wp2_with fail
       generalize sign n ++ Lib.decDigits (n.natAbs / 65536) ++ [46] = L at i5 LK LL)
    | (have be := bd
       have i5 : Lib.IsBuilder 43 5 w.heap.size w.heap.size (Lib.byteCells (sign n ++ Lib.decDigits (n.natAbs / 65536))) W3 := Or.inr i3
       have LK : Hid (print n = sign n ++ Lib.decDigits (n.natAbs / 65536) ++ frac 16 (n.natAbs % 65536)) := by
         rw [PR.out]; unfold point
         rw [if_pos (by omega), show n.natAbs % 65536 = 0 by omega, frac_nil]; exact rfl
       have LL : Hid ((sign n ++ Lib.decDigits (n.natAbs / 65536)).length ≤ 30) := by
         have := hlen.out
         show _ ≤ _
         rw [List.length_append]; omega
       clear i3 bd
       generalize sign n ++ Lib.decDigits (n.natAbs / 65536) = L at i5 LK LL)
  all_goals
    go_loopg [4] 16 (fun g v wr => ∃ (r : Nat) (l : List UInt8), v = .int .u64 r ∧ Hid (r < 65536 ∧ r * 2 ^ g % 65536 = 0 ∧ l.length + g ≤ 100 ∧ l ++ frac g r = print n) ∧ Lib.IsBuilder 43 5 w.heap.size w.heap.size (Lib.byteCells l) wr ∧ Below w.heap.size w wr)
    case atStart =>
      refine ⟨n.natAbs % 65536, L, rfl, ⟨by omega, by simp, ?_, LK.out.symm⟩, i5, be⟩
      have := LL.out; omega
    case round =>
      obtain ⟨r, l, rfl, HR, i6, bf⟩ := hrel
      by_cases hz : r = 0
      · subst hz
        have ht : l = print n := by have := HR.out.2.2.2; rw [frac_nil, List.append_nil] at this; exact this
        subst ht
        clear HR i5 be PR LK LL
        go_wp2_with fail
        refine (Tryz.Builder_String_any w.heap.size w.heap.size (print n) _ i6 bf.size).mono ?_
        rintro e W7 ⟨rfl, b7⟩
        go_wp2_with fail
        go_ret
        exact ⟨rfl, bf.trans b7⟩
      · obtain ⟨g, rfl⟩ : ∃ g', gk = g' + 1 := by
          cases gk with
          | zero => have := HR.out; omega
          | succ g => exact ⟨g, rfl⟩
        have hr1 : r < 65536 := HR.out.1
        have hr2 : 0 < (r : Int) := by omega
        have hr3 : (r : Int) < 65536 := by omega
        have HB := Lib.hid (frac_byte hr1)
        have HN : Hid (r * 10 % 65536 < 65536 ∧ r * 10 % 65536 * 2 ^ g % 65536 = 0 ∧ (l ++ [UInt8.ofNat (48 + r * 10 / 65536)]).length + g ≤ 100 ∧ (l ++ [UInt8.ofNat (48 + r * 10 / 65536)]) ++ frac g (r * 10 % 65536) = print n) := by
          obtain ⟨_, h2, h3, h4⟩ := HR.out
          refine ⟨by omega, frac_left h2, by rw [List.length_append]; show _ + 1 + g ≤ 100; omega, ?_⟩
          rw [← h4, frac_step hz, List.append_assoc]; rfl
        have HA := Lib.hid (show (#[.pointer (some { block := w.heap.size, off := 0 }), .int .u8 ((48 + IntKind.u64.wrap ((IntKind.u64.wrap ((r : Int) * 10)).tdiv 65536)) % 256)] : Array Value) = #[.pointer (some { block := w.heap.size, off := 0 }), .int .u8 ((UInt8.ofNat (48 + r * 10 / 65536)).toNat : Int)] by
          rw [HB.out, u64in (n := (r : Int) * 10) (by omega) (by omega), Int.tdiv_eq_ediv_of_nonneg (by omega), u64in (n := (r : Int) * 10 / 65536) (by omega) (by omega), show (48 + (r : Int) * 10 / 65536) % 256 = 48 + (r : Int) * 10 / 65536 by omega])
        have HM := Lib.hid (show (IntKind.u64.wrap ((r : Int) * 10)).tmod 65536 = ((r * 10 % 65536 : Nat) : Int) by
          rw [u64in (n := (r : Int) * 10) (by omega) (by omega), Int.tmod_eq_emod_of_nonneg (by omega)]; omega)
        have HL : Hid (l.length + 1 ≤ 140737488355328) := by have := HR.out.2.2.1; show _ ≤ _; omega
        clear HR i5 be PR LK LL hr1 hA hz hr hn hr3
        go_wp2_with fail
        refine calls_args HA.out ((Builder_WriteByte w.heap.size w.heap.size (Lib.byteCells l) _ _ i6 ?_ bf.size).mono ?_)
        · rw [cells_length]; exact HL.out
        rintro e W5 ⟨rfl, i7, b7⟩
        rw [cells_snoc] at i7
        go_wp2_with fail
        go_roundg g
        case measure => omega
        case rel => exact ⟨r * 10 % 65536, l ++ [UInt8.ofNat (48 + r * 10 / 65536)], by rw [HM.out], HN, Or.inr i7, bf.trans b7⟩
end Go.Proofs.YtfhadnhpognefaaGreatDoor.Fx
