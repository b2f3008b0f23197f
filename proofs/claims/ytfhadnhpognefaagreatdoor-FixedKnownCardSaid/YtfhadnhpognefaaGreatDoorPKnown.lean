/- Printed by the kit's print.py over stand-ins for some callees; their contracts, under 'Wf', are this session's. -/
import Derived.Test.YtfhadnhpognefaaGreatDoorPRefx
import Derived.Test.YtfhadnhpognefaaGreatDoorFxSubsK
namespace Go.Proofs.YtfhadnhpognefaaGreatDoor.PRef
theorem info2 : (Tryz.prog.info? 2).map (fun i => (i.zero, i.size, i.bytes)) = some (some (.int .i64 0), 1, 8) := by kernel_rfl
theorem info9 : (Tryz.prog.info? 9).map (fun i => (i.zero, i.size, i.bytes)) = some (some (.string ⟨#[]⟩), 1, 16) := by kernel_rfl
open Go Go.RowKit Go.Proofs.YtfhadnhpognefaaGreatDoorW.PrintWords Go.Proofs.YtfhadnhpognefaaGreatDoorW.PrintLast Go.Proofs.YtfhadnhpognefaaGreatDoorW.PrintMore Go.Proofs.YtfhadnhpognefaaGreatDoor.Fx
attribute [local go_sem] max2_int min2_int max_two min_two max_three min_three max_four min_four
set_option linter.unusedVariables false
set_option linter.unusedSimpArgs false

/-! ### calamuslaw01_FixedKnown: function 3 -/
mutual
def calamuslaw01_FixedKnown.j0 : Nat → Bool → Option (Bool)
  | 0, _ => none
  | k + 1, x13 => (fixed_Print.f k 98304).bind fun t369 => (if t369.toList = ([49, 46, 53] : List UInt8) then ((fixed_Print.f k 0).bind fun t370 => (if t370.toList = ([48] : List UInt8) then ((fixed_Print.f k (-9223372036854775808)).bind fun t371 => (calamuslaw01_FixedKnown.j1 k x13 (t371.toList == ([45, 49, 52, 48, 55, 51, 55, 52, 56, 56, 51, 53, 53, 51, 50, 56] : List UInt8)))) else (calamuslaw01_FixedKnown.j1 k x13 false))) else (calamuslaw01_FixedKnown.j1 k x13 false))
def calamuslaw01_FixedKnown.j1 : Nat → Bool → Bool → Option (Bool)
  | 0, _, _ => none
  | k + 1, x13, x14 => calamuslaw01_FixedKnown.l0 k x13 x14 (([(⟨#[49, 46, 53]⟩ : ByteArray), (⟨#[45, 48, 46, 48, 48, 48, 48, 49]⟩ : ByteArray), (⟨#[46, 53]⟩ : ByteArray), (⟨#[48, 46, 48, 48, 48, 48, 48, 55, 54, 50, 57, 51, 57, 52, 53, 51, 49, 50]⟩ : ByteArray), (⟨#[48, 48, 46, 53]⟩ : ByteArray), (⟨#[]⟩ : ByteArray), (⟨#[45]⟩ : ByteArray), (⟨#[45, 46]⟩ : ByteArray), (⟨#[49, 46]⟩ : ByteArray), (⟨#[49, 46, 50, 46, 51]⟩ : ByteArray), (⟨#[43, 49]⟩ : ByteArray), (⟨#[49, 101, 53]⟩ : ByteArray), (⟨#[32, 49]⟩ : ByteArray), (⟨#[45, 45, 49]⟩ : ByteArray), (⟨#[49, 52, 48, 55, 51, 55, 52, 56, 56, 51, 53, 53, 51, 50, 55, 46, 57, 57, 57, 57, 57, 50, 51, 55, 48, 54, 48, 53, 52, 54, 56, 55, 53]⟩ : ByteArray), (⟨#[49, 52, 48, 55, 51, 55, 52, 56, 56, 51, 53, 53, 51, 50, 55, 46, 57, 57, 57, 57, 57, 50, 51, 55, 48, 54, 48, 53, 52, 54, 56, 55, 52, 57, 57]⟩ : ByteArray), (⟨#[45, 49, 52, 48, 55, 51, 55, 52, 56, 56, 51, 53, 53, 51, 50, 56]⟩ : ByteArray), (⟨#[49, 52, 48, 55, 51, 55, 52, 56, 56, 51, 53, 53, 51, 50, 56]⟩ : ByteArray), (⟨#[45, 49, 52, 48, 55, 51, 55, 52, 56, 56, 51, 53, 53, 51, 50, 56, 46, 48, 48, 48, 48, 49]⟩ : ByteArray), (⟨#[48, 46, 48, 48, 48, 48, 48, 55, 54, 50, 57, 51, 57, 52, 53, 51, 49, 50, 53]⟩ : ByteArray), (⟨#[45, 48, 46, 48, 48, 48, 48, 48, 55, 54, 50, 57, 51, 57, 52, 53, 51, 49, 50, 53]⟩ : ByteArray), (⟨#[45, 48]⟩ : ByteArray), (⟨#[57, 57, 57, 57, 57, 57, 57, 57, 57, 57, 57, 57, 57, 57, 57, 57, 57, 57, 57, 57, 57, 57, 57, 57, 57, 57, 57, 57, 57, 57, 57, 57, 57, 57, 57, 57, 57, 57, 57, 57]⟩ : ByteArray), (⟨#[57, 57, 57, 57, 57, 57, 57, 57, 57, 57, 57, 57, 57, 57, 57, 57, 57, 57, 57, 57, 57, 57, 57, 57, 57, 57, 57, 57, 57, 57, 57, 57, 57, 57, 57, 57, 57, 57, 57, 57, 57]⟩ : ByteArray)] : List ByteArray)) 0
def calamuslaw01_FixedKnown.l0 : Nat → Bool → Bool → List ByteArray → Int → Option (Bool)
  | 0, _, _, _, _ => none
  | k + 1, x13, x14, x15, x16 => if x16 < (x15.length : Int) then (if 0 ≤ x16 then ((calamuslaw01_FixedReads.g k (rdOf ByteArray.empty x15 x16) ((x16) % 256)).bind fun t376 => (if t376 = true then (calamuslaw01_FixedKnown.l0 k x13 x14 x15 (wrap64 (x16 + 1))) else (some false))) else (none)) else ((fixed_Read.f k (⟨#[45, 48, 46, 48, 48, 48, 48, 49]⟩ : ByteArray)).bind fun bt377 => ((fixed_Read.f k (⟨#[48, 46, 48, 48, 48, 48, 48, 55, 54, 50, 57, 51, 57, 52, 53, 51, 49, 50]⟩ : ByteArray)).bind fun bt379 => ((fixed_Read.f k (⟨#[48, 46, 48, 48, 48, 48, 48, 55, 54, 50, 57, 51, 57, 52, 53, 51, 49, 50, 53]⟩ : ByteArray)).bind fun bt381 => (calamuslaw01_FixedKnown.l1 k x13 x14 bt377.1 bt377.2 bt379.1 bt379.2 bt381.1 bt381.2 (([0, 1, (-1), 2, (-2), 65535, 65536, (-65537), 2147483648, 2147483647, (-2147483648), 4294967296, 4611686018427387904, (-4611686018427387904), 9223372036854775807, (-9223372036854775808), (-9223372036854775807)] : List Int)) 0))))
def calamuslaw01_FixedKnown.l1 : Nat → Bool → Bool → Int → Int → Int → Int → Int → Int → List Int → Int → Option (Bool)
  | 0, _, _, _, _, _, _, _, _, _, _ => none
  | k + 1, x13, x14, x17, x18, x19, x20, x21, x22, x23, x24 => if x24 < (x23.length : Int) then (calamuslaw01_FixedKnown.l2 k x13 x14 x17 x18 x19 x20 x21 x22 x23 x24 0) else (if x13 = true then (if x14 = true then (if x17 = (-1) then (if x18 = 0 then (if x19 = 0 then (if x20 = 0 then (if x21 = 1 then (if x22 = 0 then ((calamuslaw01_FixedNear.f k 7 3 (-2)).bind fun t386 => (if t386 = true then ((calamuslaw01_FixedNear.f k (-7) 3 2).bind fun t387 => (if t387 = true then ((calamuslaw01_works.f k).bind fun t388 => (some t388)) else (some false))) else (some false))) else (some false)) else (some false)) else (some false)) else (some false)) else (some false)) else (some false)) else (some false)) else (some false))
def calamuslaw01_FixedKnown.l2 : Nat → Bool → Bool → Int → Int → Int → Int → Int → Int → List Int → Int → Int → Option (Bool)
  | 0, _, _, _, _, _, _, _, _, _, _, _ => none
  | k + 1, x13, x14, x17, x18, x19, x20, x21, x22, x23, x24, x25 => if x25 < (x23.length : Int) then (calamuslaw01_FixedKnown.l3 k x13 x14 x17 x18 x19 x20 x21 x22 x23 x24 x25 0) else (if 0 ≤ x24 then (if x24 < (x23.length : Int) then ((calamuslaw01_FixedPrints.f k (rd x23 x24)).bind fun t390 => (if t390 = true then (calamuslaw01_FixedKnown.l1 k x13 x14 x17 x18 x19 x20 x21 x22 x23 (wrap64 (x24 + 1))) else (some false))) else (none)) else (none))
def calamuslaw01_FixedKnown.l3 : Nat → Bool → Bool → Int → Int → Int → Int → Int → Int → List Int → Int → Int → Int → Option (Bool)
  | 0, _, _, _, _, _, _, _, _, _, _, _, _ => none
  | k + 1, x13, x14, x17, x18, x19, x20, x21, x22, x23, x24, x25, x26 => if x26 < (x23.length : Int) then (if 0 ≤ x24 then (if x24 < (x23.length : Int) then (if 0 ≤ x25 then (if x25 < (x23.length : Int) then (if 0 ≤ x26 then ((calamuslaw01_FixedQuotients.f k (rd x23 x24) (rd x23 x25) (rd x23 x26)).bind fun t394 => (if t394 = true then (calamuslaw01_FixedKnown.l3 k x13 x14 x17 x18 x19 x20 x21 x22 x23 x24 x25 (wrap64 (x26 + 3))) else (some false))) else (none)) else (none)) else (none)) else (none)) else (none)) else (if 0 ≤ x24 then (if x24 < (x23.length : Int) then (if 0 ≤ x25 then (if x25 < (x23.length : Int) then ((calamuslaw01_FixedSums.f k (rd x23 x24) (rd x23 x25)).bind fun t397 => (if t397 = true then ((calamuslaw01_FixedScales.f k (rd x23 x24) (rd x23 x25) (IntKind.u16.wrap (rd x23 x24))).bind fun t401 => (if t401 = true then (calamuslaw01_FixedKnown.l2 k x13 x14 x17 x18 x19 x20 x21 x22 x23 x24 (wrap64 (x25 + 1))) else (some false))) else (some false))) else (none)) else (none)) else (none)) else (none))
end
def calamuslaw01_FixedKnown.f (k : Nat)  : Option (Bool) := (fixed_Round.f k (-7) 1 2).bind fun bt357 => ((fixed_Round.f k 7 1 2).bind fun bt359 => ((fixed_Round.f k 5 1 4).bind fun bt361 => ((fixed_MulDiv.f k 4611686018427387904 6 3).bind fun bt363 => ((fixed_MulDiv.f k 4611686018427387904 3 2).bind fun bt365 => ((fixed_MulDiv.f k 1 1 0).bind fun bt367 => (if bt357.1 = (-4) then (if bt359.1 = 4 then (if bt361.1 = 1 then (if bt363.1 = 0 then (if bt363.2 = 10 then (if bt365.1 = 6917529027641081856 then (if bt365.2 = 0 then (calamuslaw01_FixedKnown.j0 k (bt367.2 == 2)) else (calamuslaw01_FixedKnown.j0 k false)) else (calamuslaw01_FixedKnown.j0 k false)) else (calamuslaw01_FixedKnown.j0 k false)) else (calamuslaw01_FixedKnown.j0 k false)) else (calamuslaw01_FixedKnown.j0 k false)) else (calamuslaw01_FixedKnown.j0 k false)) else (calamuslaw01_FixedKnown.j0 k false)))))))
def calamuslaw01_FixedKnown.T28 : Bool × List (List Nat × List Nat) := (true, [([], []), ([], []), ([0, 1], [0, 1]), ([2], [2]), ([], []), ([], []), ([4, 5], [4, 5]), ([6], [6]), ([], []), ([], []), ([8, 9], [8, 9]), ([10], [10]), ([3, 7, 11], [3, 7, 11]), ([12], [12])])
def calamuslaw01_FixedKnown.B28 : List Nat := [0, 0, 3, 7, 0, 0, 48, 112, 0, 0, 768, 1792, 4095, 8191]
theorem calamuslaw01_FixedKnown.tab28 : rtab .any (opsOf Tryz.f3 28) = calamuslaw01_FixedKnown.T28 := by kernel_rfl
theorem calamuslaw01_FixedKnown.bits28 : waitsOk calamuslaw01_FixedKnown.T28.2 calamuslaw01_FixedKnown.B28 = true := by kernel_rfl
def calamuslaw01_FixedKnown.T30 : Bool × List (List Nat × List Nat) := (true, [([], []), ([], []), ([0, 1], [0, 1]), ([2], [2]), ([], []), ([], []), ([4, 5], [4, 5]), ([6], [6]), ([3, 7], [3, 7]), ([8], [8]), ([9, 8], [9]), ([10], [10]), ([10], [10]), ([11, 12, 10], [10, 11, 12]), ([13, 10], [10, 13]), ([10], [10]), ([10], [10]), ([15, 16, 10], [10, 15, 16]), ([17, 10], [10, 17]), ([10], [10]), ([10], [10]), ([19, 20, 10], [10, 19, 20]), ([21, 10], [10, 21]), ([22, 10], [10, 22]), ([14, 18, 23, 10, 10], [10, 14, 18, 23]), ([24, 10], [10, 24]), ([10, 25], [10, 25])])
def calamuslaw01_FixedKnown.B30 : List Nat := [0, 0, 3, 7, 0, 0, 48, 112, 255, 511, 1023, 2047, 2047, 8191, 16383, 2047, 2047, 100351, 231423, 2047, 2047, 1574911, 3672063, 7866367, 16777215, 33554431, 67108863]
theorem calamuslaw01_FixedKnown.tab30 : rtab .any (opsOf Tryz.f3 30) = calamuslaw01_FixedKnown.T30 := by kernel_rfl
theorem calamuslaw01_FixedKnown.bits30 : waitsOk calamuslaw01_FixedKnown.T30.2 calamuslaw01_FixedKnown.B30 = true := by kernel_rfl
set_option maxHeartbeats 60000000 in
set_option maxRecDepth 100000 in
theorem calamuslaw01_FixedKnown.calls (k : Nat)  (r : Bool) (w : World) (h : calamuslaw01_FixedKnown.f k  = some r) (hw : Wf w) :
    Calls Tryz.prog 3 #[] w fun e w' => e = .returned (.bool r) ∧ Below w.heap.size w w' := by
  have HB := Aside0.mk (Below.refl w.heap.size w)
  have HWF := Aside0.mk hw
  clear hw
  have H : ((fixed_Round.f k (-7) 1 2).bind fun bt357 => ((fixed_Round.f k 7 1 2).bind fun bt359 => ((fixed_Round.f k 5 1 4).bind fun bt361 => ((fixed_MulDiv.f k 4611686018427387904 6 3).bind fun bt363 => ((fixed_MulDiv.f k 4611686018427387904 3 2).bind fun bt365 => ((fixed_MulDiv.f k 1 1 0).bind fun bt367 => (if bt357.1 = (-4) then (if bt359.1 = 4 then (if bt361.1 = 1 then (if bt363.1 = 0 then (if bt363.2 = 10 then (if bt365.1 = 6917529027641081856 then (if bt365.2 = 0 then (calamuslaw01_FixedKnown.j0 k (bt367.2 == 2)) else (calamuslaw01_FixedKnown.j0 k false)) else (calamuslaw01_FixedKnown.j0 k false)) else (calamuslaw01_FixedKnown.j0 k false)) else (calamuslaw01_FixedKnown.j0 k false)) else (calamuslaw01_FixedKnown.j0 k false)) else (calamuslaw01_FixedKnown.j0 k false)) else (calamuslaw01_FixedKnown.j0 k false)))))))) = some r := h
  clear h
  replace H := Option.bind_eq_some_iff.mp H
  obtain ⟨⟨t357, t358⟩, A10, H⟩ := H
  replace H : ((fixed_Round.f k 7 1 2).bind fun bt359 => ((fixed_Round.f k 5 1 4).bind fun bt361 => ((fixed_MulDiv.f k 4611686018427387904 6 3).bind fun bt363 => ((fixed_MulDiv.f k 4611686018427387904 3 2).bind fun bt365 => ((fixed_MulDiv.f k 1 1 0).bind fun bt367 => (if t357 = (-4) then (if bt359.1 = 4 then (if bt361.1 = 1 then (if bt363.1 = 0 then (if bt363.2 = 10 then (if bt365.1 = 6917529027641081856 then (if bt365.2 = 0 then (calamuslaw01_FixedKnown.j0 k (bt367.2 == 2)) else (calamuslaw01_FixedKnown.j0 k false)) else (calamuslaw01_FixedKnown.j0 k false)) else (calamuslaw01_FixedKnown.j0 k false)) else (calamuslaw01_FixedKnown.j0 k false)) else (calamuslaw01_FixedKnown.j0 k false)) else (calamuslaw01_FixedKnown.j0 k false)) else (calamuslaw01_FixedKnown.j0 k false))))))) = some r := H
  have A1 := Aside0.mk A10
  clear A10
  replace H := Option.bind_eq_some_iff.mp H
  obtain ⟨⟨t359, t360⟩, A20, H⟩ := H
  replace H : ((fixed_Round.f k 5 1 4).bind fun bt361 => ((fixed_MulDiv.f k 4611686018427387904 6 3).bind fun bt363 => ((fixed_MulDiv.f k 4611686018427387904 3 2).bind fun bt365 => ((fixed_MulDiv.f k 1 1 0).bind fun bt367 => (if t357 = (-4) then (if t359 = 4 then (if bt361.1 = 1 then (if bt363.1 = 0 then (if bt363.2 = 10 then (if bt365.1 = 6917529027641081856 then (if bt365.2 = 0 then (calamuslaw01_FixedKnown.j0 k (bt367.2 == 2)) else (calamuslaw01_FixedKnown.j0 k false)) else (calamuslaw01_FixedKnown.j0 k false)) else (calamuslaw01_FixedKnown.j0 k false)) else (calamuslaw01_FixedKnown.j0 k false)) else (calamuslaw01_FixedKnown.j0 k false)) else (calamuslaw01_FixedKnown.j0 k false)) else (calamuslaw01_FixedKnown.j0 k false)))))) = some r := H
  have A2 := Aside0.mk A20
  clear A20
  replace H := Option.bind_eq_some_iff.mp H
  obtain ⟨⟨t361, t362⟩, A30, H⟩ := H
  replace H : ((fixed_MulDiv.f k 4611686018427387904 6 3).bind fun bt363 => ((fixed_MulDiv.f k 4611686018427387904 3 2).bind fun bt365 => ((fixed_MulDiv.f k 1 1 0).bind fun bt367 => (if t357 = (-4) then (if t359 = 4 then (if t361 = 1 then (if bt363.1 = 0 then (if bt363.2 = 10 then (if bt365.1 = 6917529027641081856 then (if bt365.2 = 0 then (calamuslaw01_FixedKnown.j0 k (bt367.2 == 2)) else (calamuslaw01_FixedKnown.j0 k false)) else (calamuslaw01_FixedKnown.j0 k false)) else (calamuslaw01_FixedKnown.j0 k false)) else (calamuslaw01_FixedKnown.j0 k false)) else (calamuslaw01_FixedKnown.j0 k false)) else (calamuslaw01_FixedKnown.j0 k false)) else (calamuslaw01_FixedKnown.j0 k false))))) = some r := H
  have A3 := Aside0.mk A30
  clear A30
  replace H := Option.bind_eq_some_iff.mp H
  obtain ⟨⟨t363, t364⟩, A40, H⟩ := H
  replace H : ((fixed_MulDiv.f k 4611686018427387904 3 2).bind fun bt365 => ((fixed_MulDiv.f k 1 1 0).bind fun bt367 => (if t357 = (-4) then (if t359 = 4 then (if t361 = 1 then (if t363 = 0 then (if t364 = 10 then (if bt365.1 = 6917529027641081856 then (if bt365.2 = 0 then (calamuslaw01_FixedKnown.j0 k (bt367.2 == 2)) else (calamuslaw01_FixedKnown.j0 k false)) else (calamuslaw01_FixedKnown.j0 k false)) else (calamuslaw01_FixedKnown.j0 k false)) else (calamuslaw01_FixedKnown.j0 k false)) else (calamuslaw01_FixedKnown.j0 k false)) else (calamuslaw01_FixedKnown.j0 k false)) else (calamuslaw01_FixedKnown.j0 k false)))) = some r := H
  have A4 := Aside0.mk A40
  clear A40
  replace H := Option.bind_eq_some_iff.mp H
  obtain ⟨⟨t365, t366⟩, A50, H⟩ := H
  replace H : ((fixed_MulDiv.f k 1 1 0).bind fun bt367 => (if t357 = (-4) then (if t359 = 4 then (if t361 = 1 then (if t363 = 0 then (if t364 = 10 then (if t365 = 6917529027641081856 then (if t366 = 0 then (calamuslaw01_FixedKnown.j0 k (bt367.2 == 2)) else (calamuslaw01_FixedKnown.j0 k false)) else (calamuslaw01_FixedKnown.j0 k false)) else (calamuslaw01_FixedKnown.j0 k false)) else (calamuslaw01_FixedKnown.j0 k false)) else (calamuslaw01_FixedKnown.j0 k false)) else (calamuslaw01_FixedKnown.j0 k false)) else (calamuslaw01_FixedKnown.j0 k false))) = some r := H
  have A5 := Aside0.mk A50
  clear A50
  replace H := Option.bind_eq_some_iff.mp H
  obtain ⟨⟨t367, t368⟩, A60, H⟩ := H
  replace H : (if t357 = (-4) then (if t359 = 4 then (if t361 = 1 then (if t363 = 0 then (if t364 = 10 then (if t365 = 6917529027641081856 then (if t366 = 0 then (calamuslaw01_FixedKnown.j0 k (t368 == 2)) else (calamuslaw01_FixedKnown.j0 k false)) else (calamuslaw01_FixedKnown.j0 k false)) else (calamuslaw01_FixedKnown.j0 k false)) else (calamuslaw01_FixedKnown.j0 k false)) else (calamuslaw01_FixedKnown.j0 k false)) else (calamuslaw01_FixedKnown.j0 k false)) else (calamuslaw01_FixedKnown.j0 k false)) = some r := H
  have A6 := Aside0.mk A60
  clear A60
  have HC7 := Aside0.mk H
  clear H
  go_enter Tryz.func3, Tryz.ntmps3
  go_upto_region 7 with (first | ((with_reducible refine gate_callee (f := 4) rfl ?_); refine goesL_ (some 28) rfl rfl Tryz.func4 (by kernel_rfl) rfl #[.int .i64 (-7), .int .i64 1, .int .i64 2] rfl (by (try simp only [List.map_toArray, List.map_cons, List.map_nil]); first | done | rfl | (simp only [List.length_drop, List.length_take]; rfl)) ?_; (with_reducible refine (fixed_Round.calls k (-7) 1 2 t357 t358 _ A1.out (HWF.out.below (by repeat (first | (with_reducible first | exact HB.out | apply below_alloc | apply pw_below_drewN | apply below_drew1) | exact HB.out)))).mono ?_); rintro e w8 ⟨rfl, hb⟩; refine ⟨_, rfl, ?_⟩; have n0_ := Aside0.mk (below_step (by repeat (first | (with_reducible first | exact HB.out | apply below_alloc | apply pw_below_drewN | apply below_drew1) | exact HB.out)) hb); clear HB; have HB := n0_; clear n0_; (try clear hb); (try clear hb2); (try clear hk); (try clear hi)) | ((with_reducible refine gate_callee (f := 4) rfl ?_); refine goesL_ (some 32) rfl rfl Tryz.func4 (by kernel_rfl) rfl #[.int .i64 7, .int .i64 1, .int .i64 2] rfl (by (try simp only [List.map_toArray, List.map_cons, List.map_nil]); first | done | rfl | (simp only [List.length_drop, List.length_take]; rfl)) ?_; (with_reducible refine (fixed_Round.calls k 7 1 2 t359 t360 _ A2.out (HWF.out.below (by repeat (first | (with_reducible first | exact HB.out | apply below_alloc | apply pw_below_drewN | apply below_drew1) | exact HB.out)))).mono ?_); rintro e w9 ⟨rfl, hb⟩; refine ⟨_, rfl, ?_⟩; have n0_ := Aside0.mk (below_step (by repeat (first | (with_reducible first | exact HB.out | apply below_alloc | apply pw_below_drewN | apply below_drew1) | exact HB.out)) hb); clear HB; have HB := n0_; clear n0_; (try clear hb); (try clear hb2); (try clear hk); (try clear hi)) | ((with_reducible refine gate_callee (f := 4) rfl ?_); refine goesL_ (some 36) rfl rfl Tryz.func4 (by kernel_rfl) rfl #[.int .i64 5, .int .i64 1, .int .i64 4] rfl (by (try simp only [List.map_toArray, List.map_cons, List.map_nil]); first | done | rfl | (simp only [List.length_drop, List.length_take]; rfl)) ?_; (with_reducible refine (fixed_Round.calls k 5 1 4 t361 t362 _ A3.out (HWF.out.below (by repeat (first | (with_reducible first | exact HB.out | apply below_alloc | apply pw_below_drewN | apply below_drew1) | exact HB.out)))).mono ?_); rintro e w10 ⟨rfl, hb⟩; refine ⟨_, rfl, ?_⟩; have n0_ := Aside0.mk (below_step (by repeat (first | (with_reducible first | exact HB.out | apply below_alloc | apply pw_below_drewN | apply below_drew1) | exact HB.out)) hb); clear HB; have HB := n0_; clear n0_; (try clear hb); (try clear hb2); (try clear hk); (try clear hi)) | ((with_reducible refine gate_callee (f := 5) rfl ?_); refine goesL_ (some 40) rfl rfl Tryz.func5 (by kernel_rfl) rfl #[.int .i64 4611686018427387904, .int .i64 6, .int .i64 3] rfl (by (try simp only [List.map_toArray, List.map_cons, List.map_nil]); first | done | rfl | (simp only [List.length_drop, List.length_take]; rfl)) ?_; (with_reducible refine (fixed_MulDiv.calls k 4611686018427387904 6 3 t363 t364 _ A4.out (HWF.out.below (by repeat (first | (with_reducible first | exact HB.out | apply below_alloc | apply pw_below_drewN | apply below_drew1) | exact HB.out)))).mono ?_); rintro e w11 ⟨rfl, hb⟩; refine ⟨_, rfl, ?_⟩; have n0_ := Aside0.mk (below_step (by repeat (first | (with_reducible first | exact HB.out | apply below_alloc | apply pw_below_drewN | apply below_drew1) | exact HB.out)) hb); clear HB; have HB := n0_; clear n0_; (try clear hb); (try clear hb2); (try clear hk); (try clear hi)) | ((with_reducible refine gate_callee (f := 5) rfl ?_); refine goesL_ (some 44) rfl rfl Tryz.func5 (by kernel_rfl) rfl #[.int .i64 4611686018427387904, .int .i64 3, .int .i64 2] rfl (by (try simp only [List.map_toArray, List.map_cons, List.map_nil]); first | done | rfl | (simp only [List.length_drop, List.length_take]; rfl)) ?_; (with_reducible refine (fixed_MulDiv.calls k 4611686018427387904 3 2 t365 t366 _ A5.out (HWF.out.below (by repeat (first | (with_reducible first | exact HB.out | apply below_alloc | apply pw_below_drewN | apply below_drew1) | exact HB.out)))).mono ?_); rintro e w12 ⟨rfl, hb⟩; refine ⟨_, rfl, ?_⟩; have n0_ := Aside0.mk (below_step (by repeat (first | (with_reducible first | exact HB.out | apply below_alloc | apply pw_below_drewN | apply below_drew1) | exact HB.out)) hb); clear HB; have HB := n0_; clear n0_; (try clear hb); (try clear hb2); (try clear hk); (try clear hi)) | ((with_reducible refine gate_callee (f := 5) rfl ?_); refine goesL_ (some 48) rfl rfl Tryz.func5 (by kernel_rfl) rfl #[.int .i64 1, .int .i64 1, .int .i64 0] rfl (by (try simp only [List.map_toArray, List.map_cons, List.map_nil]); first | done | rfl | (simp only [List.length_drop, List.length_take]; rfl)) ?_; (with_reducible refine (fixed_MulDiv.calls k 1 1 0 t367 t368 _ A6.out (HWF.out.below (by repeat (first | (with_reducible first | exact HB.out | apply below_alloc | apply pw_below_drewN | apply below_drew1) | exact HB.out)))).mono ?_); rintro e w13 ⟨rfl, hb⟩; refine ⟨_, rfl, ?_⟩; have n0_ := Aside0.mk (below_step (by repeat (first | (with_reducible first | exact HB.out | apply below_alloc | apply pw_below_drewN | apply below_drew1) | exact HB.out)) hb); clear HB; have HB := n0_; clear n0_; (try clear hb); (try clear hb2); (try clear hk); (try clear hi)))
  (try simp only [Act.put, List.setIfInBounds_toArray, List.set_cons_zero, List.set_cons_succ])
  go_cut [13] (fun v13 wc => ∃ (kq : Nat) (x13_6 : Bool), v13 = .bool x13_6 ∧ Aside0 (calamuslaw01_FixedKnown.j0 kq x13_6 = some r) ∧ Aside0 (kq ≤ k) ∧ Aside0 (Below w.heap.size w wc))
  case first =>
    have H := HC7.out
    clear HC7
    by_cases c14 : t357 = (-4)
    · rw [if_pos c14] at H
      have c14b0 : (t357 == (-4)) = true := beq_iff_eq.mpr c14
      have c14b1 : (t357 != (-4)) = false := bne_eq_false_iff_eq.mpr c14
      clear c14
      (first | rw [c14b0] | (simp only [i64_w, i32_w]; rw [c14b0]) | skip)
      by_cases c15 : t359 = 4
      · rw [if_pos c15] at H
        have c15b0 : (t359 == 4) = true := beq_iff_eq.mpr c15
        have c15b1 : (t359 != 4) = false := bne_eq_false_iff_eq.mpr c15
        clear c15
        by_cases c16 : t361 = 1
        · rw [if_pos c16] at H
          have c16b0 : (t361 == 1) = true := beq_iff_eq.mpr c16
          have c16b1 : (t361 != 1) = false := bne_eq_false_iff_eq.mpr c16
          clear c16
          by_cases c17 : t363 = 0
          · rw [if_pos c17] at H
            have c17b0 : (t363 == 0) = true := beq_iff_eq.mpr c17
            have c17b1 : (t363 != 0) = false := bne_eq_false_iff_eq.mpr c17
            clear c17
            by_cases c18 : t364 = 10
            · rw [if_pos c18] at H
              have c18b0 : (t364 == 10) = true := beq_iff_eq.mpr c18
              have c18b1 : (t364 != 10) = false := bne_eq_false_iff_eq.mpr c18
              clear c18
              by_cases c19 : t365 = 6917529027641081856
              · rw [if_pos c19] at H
                have c19b0 : (t365 == 6917529027641081856) = true := beq_iff_eq.mpr c19
                have c19b1 : (t365 != 6917529027641081856) = false := bne_eq_false_iff_eq.mpr c19
                clear c19
                by_cases c20 : t366 = 0
                · rw [if_pos c20] at H
                  have c20b0 : (t366 == 0) = true := beq_iff_eq.mpr c20
                  have c20b1 : (t366 != 0) = false := bne_eq_false_iff_eq.mpr c20
                  clear c20
                  have H' := Aside0.mk H
                  clear H
                  go_wp2
                  go_meet
                  case rel => exact ⟨_, ((t368 == 2)), (by first | rfl | (simp; done) | (simp [*]; done)), H', ⟨by first | omega | exact Nat.le_refl _⟩, ⟨by repeat (first | (with_reducible first | exact HB.out | apply below_alloc | apply pw_below_drewN | apply below_drew1) | exact HB.out)⟩⟩
                · rw [if_neg c20] at H
                  have c20b0 : (t366 == 0) = false := beq_eq_false_iff_ne.mpr c20
                  have c20b1 : (t366 != 0) = true := bne_iff_ne.mpr c20
                  have H' := Aside0.mk H
                  clear H
                  go_wp2
                  go_meet
                  case rel => exact ⟨_, (false), (by first | rfl | (simp; done) | (simp [*]; done)), H', ⟨by first | omega | exact Nat.le_refl _⟩, ⟨by repeat (first | (with_reducible first | exact HB.out | apply below_alloc | apply pw_below_drewN | apply below_drew1) | exact HB.out)⟩⟩
              · rw [if_neg c19] at H
                have c19b0 : (t365 == 6917529027641081856) = false := beq_eq_false_iff_ne.mpr c19
                have c19b1 : (t365 != 6917529027641081856) = true := bne_iff_ne.mpr c19
                have H' := Aside0.mk H
                clear H
                go_wp2
                go_meet
                case rel => exact ⟨_, (false), (by first | rfl | (simp; done) | (simp [*]; done)), H', ⟨by first | omega | exact Nat.le_refl _⟩, ⟨by repeat (first | (with_reducible first | exact HB.out | apply below_alloc | apply pw_below_drewN | apply below_drew1) | exact HB.out)⟩⟩
            · rw [if_neg c18] at H
              have c18b0 : (t364 == 10) = false := beq_eq_false_iff_ne.mpr c18
              have c18b1 : (t364 != 10) = true := bne_iff_ne.mpr c18
              have H' := Aside0.mk H
              clear H
              go_wp2
              go_meet
              case rel => exact ⟨_, (false), (by first | rfl | (simp; done) | (simp [*]; done)), H', ⟨by first | omega | exact Nat.le_refl _⟩, ⟨by repeat (first | (with_reducible first | exact HB.out | apply below_alloc | apply pw_below_drewN | apply below_drew1) | exact HB.out)⟩⟩
          · rw [if_neg c17] at H
            have c17b0 : (t363 == 0) = false := beq_eq_false_iff_ne.mpr c17
            have c17b1 : (t363 != 0) = true := bne_iff_ne.mpr c17
            have H' := Aside0.mk H
            clear H
            go_wp2
            go_meet
            case rel => exact ⟨_, (false), (by first | rfl | (simp; done) | (simp [*]; done)), H', ⟨by first | omega | exact Nat.le_refl _⟩, ⟨by repeat (first | (with_reducible first | exact HB.out | apply below_alloc | apply pw_below_drewN | apply below_drew1) | exact HB.out)⟩⟩
        · rw [if_neg c16] at H
          have c16b0 : (t361 == 1) = false := beq_eq_false_iff_ne.mpr c16
          have c16b1 : (t361 != 1) = true := bne_iff_ne.mpr c16
          have H' := Aside0.mk H
          clear H
          go_wp2
          go_meet
          case rel => exact ⟨_, (false), (by first | rfl | (simp; done) | (simp [*]; done)), H', ⟨by first | omega | exact Nat.le_refl _⟩, ⟨by repeat (first | (with_reducible first | exact HB.out | apply below_alloc | apply pw_below_drewN | apply below_drew1) | exact HB.out)⟩⟩
      · rw [if_neg c15] at H
        have c15b0 : (t359 == 4) = false := beq_eq_false_iff_ne.mpr c15
        have c15b1 : (t359 != 4) = true := bne_iff_ne.mpr c15
        have H' := Aside0.mk H
        clear H
        go_wp2
        go_meet
        case rel => exact ⟨_, (false), (by first | rfl | (simp; done) | (simp [*]; done)), H', ⟨by first | omega | exact Nat.le_refl _⟩, ⟨by repeat (first | (with_reducible first | exact HB.out | apply below_alloc | apply pw_below_drewN | apply below_drew1) | exact HB.out)⟩⟩
    · rw [if_neg c14] at H
      have c14b0 : (t357 == (-4)) = false := beq_eq_false_iff_ne.mpr c14
      have c14b1 : (t357 != (-4)) = true := bne_iff_ne.mpr c14
      (first | rw [c14b0] | (simp only [i64_w, i32_w]; rw [c14b0]) | skip)
      have H' := Aside0.mk H
      clear H
      go_wp2
      go_meet
      case rel => exact ⟨_, (false), (by first | rfl | (simp; done) | (simp [*]; done)), H', ⟨by first | omega | exact Nat.le_refl _⟩, ⟨by repeat (first | (with_reducible first | exact HB.out | apply below_alloc | apply pw_below_drewN | apply below_drew1) | exact HB.out)⟩⟩
  case rest =>
    clear HC7
    try clear c1
    try clear c2
    try clear p2
    try clear c3
    try clear c4
    try clear c5
    try clear c14
    try clear c14b0
    try clear c14b1
    try clear c15
    try clear c15b0
    try clear c15b1
    try clear c16
    try clear c16b0
    try clear c16b1
    try clear c17
    try clear c17b0
    try clear c17b1
    try clear c18
    try clear c18b0
    try clear c18b1
    try clear c19
    try clear c19b0
    try clear c19b1
    try clear c20
    try clear c20b0
    try clear c20b1
    obtain ⟨kq, x13_6, rfl, HA, HJ6, HB⟩ := hcut
    cases kq with
    | zero => exact absurd HA.out (by simp [calamuslaw01_FixedKnown.j0])
    | succ kj6 =>
      have H := HA.out
      clear HA
      simp only [calamuslaw01_FixedKnown.j0] at H
      have HC21 := Aside0.mk H
      clear H
      go_upto_region 8 with (fail)
      go_cut [14] (fun v14 wc => ∃ (kq : Nat) (x14_20 : Bool), v14 = .bool x14_20 ∧ Aside0 (calamuslaw01_FixedKnown.j1 kq x13_6 x14_20 = some r) ∧ Aside0 (kq ≤ kj6) ∧ Aside0 (Below w.heap.size w wc))
      case first =>
        have H := HC21.out
        clear HC21
        replace H := Option.bind_eq_some_iff.mp H
        obtain ⟨t369, A220, H⟩ := H
        replace H : (if t369.toList = ([49, 46, 53] : List UInt8) then ((fixed_Print.f kj6 0).bind fun t370 => (if t370.toList = ([48] : List UInt8) then ((fixed_Print.f kj6 (-9223372036854775808)).bind fun t371 => (calamuslaw01_FixedKnown.j1 kj6 x13_6 (t371.toList == ([45, 49, 52, 48, 55, 51, 55, 52, 56, 56, 51, 53, 53, 51, 50, 56] : List UInt8)))) else (calamuslaw01_FixedKnown.j1 kj6 x13_6 false))) else (calamuslaw01_FixedKnown.j1 kj6 x13_6 false)) = some r := H
        have A22 := Aside0.mk A220
        clear A220
        by_cases c23 : t369.toList = ([49, 46, 53] : List UInt8)
        · rw [if_pos c23] at H
          have c23b0 : (t369.toList == ([49, 46, 53] : List UInt8)) = true := beq_iff_eq.mpr c23
          have c23b1 : (t369.toList != ([49, 46, 53] : List UInt8)) = false := bne_eq_false_iff_eq.mpr c23
          clear c23
          (first | rw [c23b0] | (simp only [i64_w, i32_w]; rw [c23b0]) | skip)
          replace H := Option.bind_eq_some_iff.mp H
          obtain ⟨t370, A240, H⟩ := H
          replace H : (if t370.toList = ([48] : List UInt8) then ((fixed_Print.f kj6 (-9223372036854775808)).bind fun t371 => (calamuslaw01_FixedKnown.j1 kj6 x13_6 (t371.toList == ([45, 49, 52, 48, 55, 51, 55, 52, 56, 56, 51, 53, 53, 51, 50, 56] : List UInt8)))) else (calamuslaw01_FixedKnown.j1 kj6 x13_6 false)) = some r := H
          have A24 := Aside0.mk A240
          clear A240
          by_cases c25 : t370.toList = ([48] : List UInt8)
          · rw [if_pos c25] at H
            have c25b0 : (t370.toList == ([48] : List UInt8)) = true := beq_iff_eq.mpr c25
            have c25b1 : (t370.toList != ([48] : List UInt8)) = false := bne_eq_false_iff_eq.mpr c25
            clear c25
            replace H := Option.bind_eq_some_iff.mp H
            obtain ⟨t371, A260, H⟩ := H
            replace H : (calamuslaw01_FixedKnown.j1 kj6 x13_6 (t371.toList == ([45, 49, 52, 48, 55, 51, 55, 52, 56, 56, 51, 53, 53, 51, 50, 56] : List UInt8))) = some r := H
            have A26 := Aside0.mk A260
            clear A260
            have H' := Aside0.mk H
            clear H
            go_wp2_with (first | ((with_reducible refine gate_callee (f := 6) rfl ?_); refine goesL_ (some 81) rfl rfl Tryz.func6 (by kernel_rfl) rfl #[.int .i64 98304] rfl (by (try simp only [List.map_toArray, List.map_cons, List.map_nil]); first | done | rfl | (simp only [List.length_drop, List.length_take]; rfl)) ?_; (with_reducible refine (fixed_Print.calls kj6 98304 t369 _ A22.out (HWF.out.below (by repeat (first | (with_reducible first | exact HB.out | apply below_alloc | apply pw_below_drewN | apply below_drew1) | exact HB.out)))).mono ?_); rintro e w27 ⟨rfl, hb⟩; refine ⟨_, rfl, ?_⟩; have n0_ := Aside0.mk (below_step (by repeat (first | (with_reducible first | exact HB.out | apply below_alloc | apply pw_below_drewN | apply below_drew1) | exact HB.out)) hb); clear HB; have HB := n0_; clear n0_; (try clear hb); (try clear hb2); (try clear hk); (try clear hi)) | (go_at_call 6; (with_reducible refine (fixed_Print.calls kj6 0 t370 _ A24.out (HWF.out.below (by repeat (first | (with_reducible first | exact HB.out | apply below_alloc | apply pw_below_drewN | apply below_drew1) | exact HB.out)))).mono ?_); rintro e w28 ⟨rfl, hb⟩; have n0_ := Aside0.mk (below_step (by repeat (first | (with_reducible first | exact HB.out | apply below_alloc | apply pw_below_drewN | apply below_drew1) | exact HB.out)) hb); clear HB; have HB := n0_; clear n0_; (try clear hb); (try clear hb2); (try clear hk); (try clear hi)) | (go_at_call 6; (with_reducible refine (fixed_Print.calls kj6 (-9223372036854775808) t371 _ A26.out (HWF.out.below (by repeat (first | (with_reducible first | exact HB.out | apply below_alloc | apply pw_below_drewN | apply below_drew1) | exact HB.out)))).mono ?_); rintro e w29 ⟨rfl, hb⟩; have n0_ := Aside0.mk (below_step (by repeat (first | (with_reducible first | exact HB.out | apply below_alloc | apply pw_below_drewN | apply below_drew1) | exact HB.out)) hb); clear HB; have HB := n0_; clear n0_; (try clear hb); (try clear hb2); (try clear hk); (try clear hi)))
            go_meet
            case rel => exact ⟨_, ((t371.toList == ([45, 49, 52, 48, 55, 51, 55, 52, 56, 56, 51, 53, 53, 51, 50, 56] : List UInt8))), (by first | rfl | (simp; done) | (simp [*]; done)), H', ⟨by have := HJ6.out; first | omega | exact Nat.le_refl _⟩, ⟨by repeat (first | (with_reducible first | exact HB.out | apply below_alloc | apply pw_below_drewN | apply below_drew1) | exact HB.out)⟩⟩
          · rw [if_neg c25] at H
            have c25b0 : (t370.toList == ([48] : List UInt8)) = false := beq_eq_false_iff_ne.mpr c25
            have c25b1 : (t370.toList != ([48] : List UInt8)) = true := bne_iff_ne.mpr c25
            have H' := Aside0.mk H
            clear H
            go_wp2_with (first | ((with_reducible refine gate_callee (f := 6) rfl ?_); refine goesL_ (some 81) rfl rfl Tryz.func6 (by kernel_rfl) rfl #[.int .i64 98304] rfl (by (try simp only [List.map_toArray, List.map_cons, List.map_nil]); first | done | rfl | (simp only [List.length_drop, List.length_take]; rfl)) ?_; (with_reducible refine (fixed_Print.calls kj6 98304 t369 _ A22.out (HWF.out.below (by repeat (first | (with_reducible first | exact HB.out | apply below_alloc | apply pw_below_drewN | apply below_drew1) | exact HB.out)))).mono ?_); rintro e w30 ⟨rfl, hb⟩; refine ⟨_, rfl, ?_⟩; have n0_ := Aside0.mk (below_step (by repeat (first | (with_reducible first | exact HB.out | apply below_alloc | apply pw_below_drewN | apply below_drew1) | exact HB.out)) hb); clear HB; have HB := n0_; clear n0_; (try clear hb); (try clear hb2); (try clear hk); (try clear hi)) | (go_at_call 6; (with_reducible refine (fixed_Print.calls kj6 0 t370 _ A24.out (HWF.out.below (by repeat (first | (with_reducible first | exact HB.out | apply below_alloc | apply pw_below_drewN | apply below_drew1) | exact HB.out)))).mono ?_); rintro e w31 ⟨rfl, hb⟩; have n0_ := Aside0.mk (below_step (by repeat (first | (with_reducible first | exact HB.out | apply below_alloc | apply pw_below_drewN | apply below_drew1) | exact HB.out)) hb); clear HB; have HB := n0_; clear n0_; (try clear hb); (try clear hb2); (try clear hk); (try clear hi)))
            go_meet
            case rel => exact ⟨_, (false), (by first | rfl | (simp; done) | (simp [*]; done)), H', ⟨by have := HJ6.out; first | omega | exact Nat.le_refl _⟩, ⟨by repeat (first | (with_reducible first | exact HB.out | apply below_alloc | apply pw_below_drewN | apply below_drew1) | exact HB.out)⟩⟩
        · rw [if_neg c23] at H
          have c23b0 : (t369.toList == ([49, 46, 53] : List UInt8)) = false := beq_eq_false_iff_ne.mpr c23
          have c23b1 : (t369.toList != ([49, 46, 53] : List UInt8)) = true := bne_iff_ne.mpr c23
          (first | rw [c23b0] | (simp only [i64_w, i32_w]; rw [c23b0]) | skip)
          have H' := Aside0.mk H
          clear H
          go_wp2_with (first | ((with_reducible refine gate_callee (f := 6) rfl ?_); refine goesL_ (some 81) rfl rfl Tryz.func6 (by kernel_rfl) rfl #[.int .i64 98304] rfl (by (try simp only [List.map_toArray, List.map_cons, List.map_nil]); first | done | rfl | (simp only [List.length_drop, List.length_take]; rfl)) ?_; (with_reducible refine (fixed_Print.calls kj6 98304 t369 _ A22.out (HWF.out.below (by repeat (first | (with_reducible first | exact HB.out | apply below_alloc | apply pw_below_drewN | apply below_drew1) | exact HB.out)))).mono ?_); rintro e w32 ⟨rfl, hb⟩; refine ⟨_, rfl, ?_⟩; have n0_ := Aside0.mk (below_step (by repeat (first | (with_reducible first | exact HB.out | apply below_alloc | apply pw_below_drewN | apply below_drew1) | exact HB.out)) hb); clear HB; have HB := n0_; clear n0_; (try clear hb); (try clear hb2); (try clear hk); (try clear hi)))
          go_meet
          case rel => exact ⟨_, (false), (by first | rfl | (simp; done) | (simp [*]; done)), H', ⟨by have := HJ6.out; first | omega | exact Nat.le_refl _⟩, ⟨by repeat (first | (with_reducible first | exact HB.out | apply below_alloc | apply pw_below_drewN | apply below_drew1) | exact HB.out)⟩⟩
      case rest =>
        clear HC21
        try clear c1
        try clear c2
        try clear p2
        try clear c3
        try clear c4
        try clear c5
        try clear c6
        try clear c14
        try clear c14b0
        try clear c14b1
        try clear c15
        try clear c15b0
        try clear c15b1
        try clear c16
        try clear c16b0
        try clear c16b1
        try clear c17
        try clear c17b0
        try clear c17b1
        try clear c18
        try clear c18b0
        try clear c18b1
        try clear c19
        try clear c19b0
        try clear c19b1
        try clear c20
        try clear c20b0
        try clear c20b1
        try clear c23
        try clear c23b0
        try clear c23b1
        try clear c25
        try clear c25b0
        try clear c25b1
        try clear p2
        obtain ⟨kq, x14_20, rfl, HA, HJ20, HB⟩ := hcut
        cases kq with
        | zero => exact absurd HA.out (by simp [calamuslaw01_FixedKnown.j1])
        | succ kj20 =>
          have H := HA.out
          clear HA
          simp only [calamuslaw01_FixedKnown.j1] at H
          obtain ⟨y372, hy372⟩ : ∃ y_ : List ByteArray, y_ = (([(⟨#[49, 46, 53]⟩ : ByteArray), (⟨#[45, 48, 46, 48, 48, 48, 48, 49]⟩ : ByteArray), (⟨#[46, 53]⟩ : ByteArray), (⟨#[48, 46, 48, 48, 48, 48, 48, 55, 54, 50, 57, 51, 57, 52, 53, 51, 49, 50]⟩ : ByteArray), (⟨#[48, 48, 46, 53]⟩ : ByteArray), (⟨#[]⟩ : ByteArray), (⟨#[45]⟩ : ByteArray), (⟨#[45, 46]⟩ : ByteArray), (⟨#[49, 46]⟩ : ByteArray), (⟨#[49, 46, 50, 46, 51]⟩ : ByteArray), (⟨#[43, 49]⟩ : ByteArray), (⟨#[49, 101, 53]⟩ : ByteArray), (⟨#[32, 49]⟩ : ByteArray), (⟨#[45, 45, 49]⟩ : ByteArray), (⟨#[49, 52, 48, 55, 51, 55, 52, 56, 56, 51, 53, 53, 51, 50, 55, 46, 57, 57, 57, 57, 57, 50, 51, 55, 48, 54, 48, 53, 52, 54, 56, 55, 53]⟩ : ByteArray), (⟨#[49, 52, 48, 55, 51, 55, 52, 56, 56, 51, 53, 53, 51, 50, 55, 46, 57, 57, 57, 57, 57, 50, 51, 55, 48, 54, 48, 53, 52, 54, 56, 55, 52, 57, 57]⟩ : ByteArray), (⟨#[45, 49, 52, 48, 55, 51, 55, 52, 56, 56, 51, 53, 53, 51, 50, 56]⟩ : ByteArray), (⟨#[49, 52, 48, 55, 51, 55, 52, 56, 56, 51, 53, 53, 51, 50, 56]⟩ : ByteArray), (⟨#[45, 49, 52, 48, 55, 51, 55, 52, 56, 56, 51, 53, 53, 51, 50, 56, 46, 48, 48, 48, 48, 49]⟩ : ByteArray), (⟨#[48, 46, 48, 48, 48, 48, 48, 55, 54, 50, 57, 51, 57, 52, 53, 51, 49, 50, 53]⟩ : ByteArray), (⟨#[45, 48, 46, 48, 48, 48, 48, 48, 55, 54, 50, 57, 51, 57, 52, 53, 51, 49, 50, 53]⟩ : ByteArray), (⟨#[45, 48]⟩ : ByteArray), (⟨#[57, 57, 57, 57, 57, 57, 57, 57, 57, 57, 57, 57, 57, 57, 57, 57, 57, 57, 57, 57, 57, 57, 57, 57, 57, 57, 57, 57, 57, 57, 57, 57, 57, 57, 57, 57, 57, 57, 57, 57]⟩ : ByteArray), (⟨#[57, 57, 57, 57, 57, 57, 57, 57, 57, 57, 57, 57, 57, 57, 57, 57, 57, 57, 57, 57, 57, 57, 57, 57, 57, 57, 57, 57, 57, 57, 57, 57, 57, 57, 57, 57, 57, 57, 57, 57, 57]⟩ : ByteArray)] : List ByteArray)) := ⟨_, rfl⟩
          replace H : (calamuslaw01_FixedKnown.l0 kj20 x13_6 x14_20 y372 0) = some r := by first | (rw [hy372]; with_reducible exact H) | (have H2_ := (Option.bind_some _ _).symm.trans H; rw [hy372]; with_reducible exact H2_) | (have H2_ := (Option.bind_some _ _).symm.trans H; with_reducible exact H2_) | with_reducible exact H | (rw [hy372]; exact H) | exact H
          have Ny372 := Aside0.mk hy372
          clear hy372
          have H' := Aside0.mk H
          clear H
          go_wp2_with (first | ((with_reducible refine gate_dst (N := 91) rfl ?_); refine Kd.R_lit Kd.string _ 9 ?hg (N := 91) ?hd (xs := ([(⟨#[49, 46, 53]⟩ : ByteArray), (⟨#[45, 48, 46, 48, 48, 48, 48, 49]⟩ : ByteArray), (⟨#[46, 53]⟩ : ByteArray), (⟨#[48, 46, 48, 48, 48, 48, 48, 55, 54, 50, 57, 51, 57, 52, 53, 51, 49, 50]⟩ : ByteArray), (⟨#[48, 48, 46, 53]⟩ : ByteArray), (⟨#[]⟩ : ByteArray), (⟨#[45]⟩ : ByteArray), (⟨#[45, 46]⟩ : ByteArray), (⟨#[49, 46]⟩ : ByteArray), (⟨#[49, 46, 50, 46, 51]⟩ : ByteArray), (⟨#[43, 49]⟩ : ByteArray), (⟨#[49, 101, 53]⟩ : ByteArray), (⟨#[32, 49]⟩ : ByteArray), (⟨#[45, 45, 49]⟩ : ByteArray), (⟨#[49, 52, 48, 55, 51, 55, 52, 56, 56, 51, 53, 53, 51, 50, 55, 46, 57, 57, 57, 57, 57, 50, 51, 55, 48, 54, 48, 53, 52, 54, 56, 55, 53]⟩ : ByteArray), (⟨#[49, 52, 48, 55, 51, 55, 52, 56, 56, 51, 53, 53, 51, 50, 55, 46, 57, 57, 57, 57, 57, 50, 51, 55, 48, 54, 48, 53, 52, 54, 56, 55, 52, 57, 57]⟩ : ByteArray), (⟨#[45, 49, 52, 48, 55, 51, 55, 52, 56, 56, 51, 53, 53, 51, 50, 56]⟩ : ByteArray), (⟨#[49, 52, 48, 55, 51, 55, 52, 56, 56, 51, 53, 53, 51, 50, 56]⟩ : ByteArray), (⟨#[45, 49, 52, 48, 55, 51, 55, 52, 56, 56, 51, 53, 53, 51, 50, 56, 46, 48, 48, 48, 48, 49]⟩ : ByteArray), (⟨#[48, 46, 48, 48, 48, 48, 48, 55, 54, 50, 57, 51, 57, 52, 53, 51, 49, 50, 53]⟩ : ByteArray), (⟨#[45, 48, 46, 48, 48, 48, 48, 48, 55, 54, 50, 57, 51, 57, 52, 53, 51, 49, 50, 53]⟩ : ByteArray), (⟨#[45, 48]⟩ : ByteArray), (⟨#[57, 57, 57, 57, 57, 57, 57, 57, 57, 57, 57, 57, 57, 57, 57, 57, 57, 57, 57, 57, 57, 57, 57, 57, 57, 57, 57, 57, 57, 57, 57, 57, 57, 57, 57, 57, 57, 57, 57, 57]⟩ : ByteArray), (⟨#[57, 57, 57, 57, 57, 57, 57, 57, 57, 57, 57, 57, 57, 57, 57, 57, 57, 57, 57, 57, 57, 57, 57, 57, 57, 57, 57, 57, 57, 57, 57, 57, 57, 57, 57, 57, 57, 57, 57, 57, 57]⟩ : ByteArray)] : List ByteArray)) (inner := [.string (⟨#[49, 46, 53]⟩ : ByteArray), .string (⟨#[45, 48, 46, 48, 48, 48, 48, 49]⟩ : ByteArray), .string (⟨#[46, 53]⟩ : ByteArray), .string (⟨#[48, 46, 48, 48, 48, 48, 48, 55, 54, 50, 57, 51, 57, 52, 53, 51, 49, 50]⟩ : ByteArray), .string (⟨#[48, 48, 46, 53]⟩ : ByteArray), .string (⟨#[]⟩ : ByteArray), .string (⟨#[45]⟩ : ByteArray), .string (⟨#[45, 46]⟩ : ByteArray), .string (⟨#[49, 46]⟩ : ByteArray), .string (⟨#[49, 46, 50, 46, 51]⟩ : ByteArray), .string (⟨#[43, 49]⟩ : ByteArray), .string (⟨#[49, 101, 53]⟩ : ByteArray), .string (⟨#[32, 49]⟩ : ByteArray), .string (⟨#[45, 45, 49]⟩ : ByteArray), .string (⟨#[49, 52, 48, 55, 51, 55, 52, 56, 56, 51, 53, 53, 51, 50, 55, 46, 57, 57, 57, 57, 57, 50, 51, 55, 48, 54, 48, 53, 52, 54, 56, 55, 53]⟩ : ByteArray), .string (⟨#[49, 52, 48, 55, 51, 55, 52, 56, 56, 51, 53, 53, 51, 50, 55, 46, 57, 57, 57, 57, 57, 50, 51, 55, 48, 54, 48, 53, 52, 54, 56, 55, 52, 57, 57]⟩ : ByteArray), .string (⟨#[45, 49, 52, 48, 55, 51, 55, 52, 56, 56, 51, 53, 53, 51, 50, 56]⟩ : ByteArray), .string (⟨#[49, 52, 48, 55, 51, 55, 52, 56, 56, 51, 53, 53, 51, 50, 56]⟩ : ByteArray), .string (⟨#[45, 49, 52, 48, 55, 51, 55, 52, 56, 56, 51, 53, 53, 51, 50, 56, 46, 48, 48, 48, 48, 49]⟩ : ByteArray), .string (⟨#[48, 46, 48, 48, 48, 48, 48, 55, 54, 50, 57, 51, 57, 52, 53, 51, 49, 50, 53]⟩ : ByteArray), .string (⟨#[45, 48, 46, 48, 48, 48, 48, 48, 55, 54, 50, 57, 51, 57, 52, 53, 51, 49, 50, 53]⟩ : ByteArray), .string (⟨#[45, 48]⟩ : ByteArray), .string (⟨#[57, 57, 57, 57, 57, 57, 57, 57, 57, 57, 57, 57, 57, 57, 57, 57, 57, 57, 57, 57, 57, 57, 57, 57, 57, 57, 57, 57, 57, 57, 57, 57, 57, 57, 57, 57, 57, 57, 57, 57]⟩ : ByteArray), .string (⟨#[57, 57, 57, 57, 57, 57, 57, 57, 57, 57, 57, 57, 57, 57, 57, 57, 57, 57, 57, 57, 57, 57, 57, 57, 57, 57, 57, 57, 57, 57, 57, 57, 57, 57, 57, 57, 57, 57, 57, 57, 57]⟩ : ByteArray)]) (ok := fun _ => True) (okp := fun _ => True) ?hr ?hp (fun _ hk => hk) trivial (Below.refl _ _) (Nat.le_refl _) (by simp) ?_; (case hd => rfl); (case hg => rfl); (case hr => first | (go_simp; done) | (go_simp; rfl)); (case hp => exact (Reps.one (show Kd.M Kd.string _ _ _ (⟨#[49, 46, 53]⟩ : ByteArray) [.string (⟨#[49, 46, 53]⟩ : ByteArray)] from rfl) (Reps.one (show Kd.M Kd.string _ _ _ (⟨#[45, 48, 46, 48, 48, 48, 48, 49]⟩ : ByteArray) [.string (⟨#[45, 48, 46, 48, 48, 48, 48, 49]⟩ : ByteArray)] from rfl) (Reps.one (show Kd.M Kd.string _ _ _ (⟨#[46, 53]⟩ : ByteArray) [.string (⟨#[46, 53]⟩ : ByteArray)] from rfl) (Reps.one (show Kd.M Kd.string _ _ _ (⟨#[48, 46, 48, 48, 48, 48, 48, 55, 54, 50, 57, 51, 57, 52, 53, 51, 49, 50]⟩ : ByteArray) [.string (⟨#[48, 46, 48, 48, 48, 48, 48, 55, 54, 50, 57, 51, 57, 52, 53, 51, 49, 50]⟩ : ByteArray)] from rfl) (Reps.one (show Kd.M Kd.string _ _ _ (⟨#[48, 48, 46, 53]⟩ : ByteArray) [.string (⟨#[48, 48, 46, 53]⟩ : ByteArray)] from rfl) (Reps.one (show Kd.M Kd.string _ _ _ (⟨#[]⟩ : ByteArray) [.string (⟨#[]⟩ : ByteArray)] from rfl) (Reps.one (show Kd.M Kd.string _ _ _ (⟨#[45]⟩ : ByteArray) [.string (⟨#[45]⟩ : ByteArray)] from rfl) (Reps.one (show Kd.M Kd.string _ _ _ (⟨#[45, 46]⟩ : ByteArray) [.string (⟨#[45, 46]⟩ : ByteArray)] from rfl) (Reps.one (show Kd.M Kd.string _ _ _ (⟨#[49, 46]⟩ : ByteArray) [.string (⟨#[49, 46]⟩ : ByteArray)] from rfl) (Reps.one (show Kd.M Kd.string _ _ _ (⟨#[49, 46, 50, 46, 51]⟩ : ByteArray) [.string (⟨#[49, 46, 50, 46, 51]⟩ : ByteArray)] from rfl) (Reps.one (show Kd.M Kd.string _ _ _ (⟨#[43, 49]⟩ : ByteArray) [.string (⟨#[43, 49]⟩ : ByteArray)] from rfl) (Reps.one (show Kd.M Kd.string _ _ _ (⟨#[49, 101, 53]⟩ : ByteArray) [.string (⟨#[49, 101, 53]⟩ : ByteArray)] from rfl) (Reps.one (show Kd.M Kd.string _ _ _ (⟨#[32, 49]⟩ : ByteArray) [.string (⟨#[32, 49]⟩ : ByteArray)] from rfl) (Reps.one (show Kd.M Kd.string _ _ _ (⟨#[45, 45, 49]⟩ : ByteArray) [.string (⟨#[45, 45, 49]⟩ : ByteArray)] from rfl) (Reps.one (show Kd.M Kd.string _ _ _ (⟨#[49, 52, 48, 55, 51, 55, 52, 56, 56, 51, 53, 53, 51, 50, 55, 46, 57, 57, 57, 57, 57, 50, 51, 55, 48, 54, 48, 53, 52, 54, 56, 55, 53]⟩ : ByteArray) [.string (⟨#[49, 52, 48, 55, 51, 55, 52, 56, 56, 51, 53, 53, 51, 50, 55, 46, 57, 57, 57, 57, 57, 50, 51, 55, 48, 54, 48, 53, 52, 54, 56, 55, 53]⟩ : ByteArray)] from rfl) (Reps.one (show Kd.M Kd.string _ _ _ (⟨#[49, 52, 48, 55, 51, 55, 52, 56, 56, 51, 53, 53, 51, 50, 55, 46, 57, 57, 57, 57, 57, 50, 51, 55, 48, 54, 48, 53, 52, 54, 56, 55, 52, 57, 57]⟩ : ByteArray) [.string (⟨#[49, 52, 48, 55, 51, 55, 52, 56, 56, 51, 53, 53, 51, 50, 55, 46, 57, 57, 57, 57, 57, 50, 51, 55, 48, 54, 48, 53, 52, 54, 56, 55, 52, 57, 57]⟩ : ByteArray)] from rfl) (Reps.one (show Kd.M Kd.string _ _ _ (⟨#[45, 49, 52, 48, 55, 51, 55, 52, 56, 56, 51, 53, 53, 51, 50, 56]⟩ : ByteArray) [.string (⟨#[45, 49, 52, 48, 55, 51, 55, 52, 56, 56, 51, 53, 53, 51, 50, 56]⟩ : ByteArray)] from rfl) (Reps.one (show Kd.M Kd.string _ _ _ (⟨#[49, 52, 48, 55, 51, 55, 52, 56, 56, 51, 53, 53, 51, 50, 56]⟩ : ByteArray) [.string (⟨#[49, 52, 48, 55, 51, 55, 52, 56, 56, 51, 53, 53, 51, 50, 56]⟩ : ByteArray)] from rfl) (Reps.one (show Kd.M Kd.string _ _ _ (⟨#[45, 49, 52, 48, 55, 51, 55, 52, 56, 56, 51, 53, 53, 51, 50, 56, 46, 48, 48, 48, 48, 49]⟩ : ByteArray) [.string (⟨#[45, 49, 52, 48, 55, 51, 55, 52, 56, 56, 51, 53, 53, 51, 50, 56, 46, 48, 48, 48, 48, 49]⟩ : ByteArray)] from rfl) (Reps.one (show Kd.M Kd.string _ _ _ (⟨#[48, 46, 48, 48, 48, 48, 48, 55, 54, 50, 57, 51, 57, 52, 53, 51, 49, 50, 53]⟩ : ByteArray) [.string (⟨#[48, 46, 48, 48, 48, 48, 48, 55, 54, 50, 57, 51, 57, 52, 53, 51, 49, 50, 53]⟩ : ByteArray)] from rfl) (Reps.one (show Kd.M Kd.string _ _ _ (⟨#[45, 48, 46, 48, 48, 48, 48, 48, 55, 54, 50, 57, 51, 57, 52, 53, 51, 49, 50, 53]⟩ : ByteArray) [.string (⟨#[45, 48, 46, 48, 48, 48, 48, 48, 55, 54, 50, 57, 51, 57, 52, 53, 51, 49, 50, 53]⟩ : ByteArray)] from rfl) (Reps.one (show Kd.M Kd.string _ _ _ (⟨#[45, 48]⟩ : ByteArray) [.string (⟨#[45, 48]⟩ : ByteArray)] from rfl) (Reps.one (show Kd.M Kd.string _ _ _ (⟨#[57, 57, 57, 57, 57, 57, 57, 57, 57, 57, 57, 57, 57, 57, 57, 57, 57, 57, 57, 57, 57, 57, 57, 57, 57, 57, 57, 57, 57, 57, 57, 57, 57, 57, 57, 57, 57, 57, 57, 57]⟩ : ByteArray) [.string (⟨#[57, 57, 57, 57, 57, 57, 57, 57, 57, 57, 57, 57, 57, 57, 57, 57, 57, 57, 57, 57, 57, 57, 57, 57, 57, 57, 57, 57, 57, 57, 57, 57, 57, 57, 57, 57, 57, 57, 57, 57]⟩ : ByteArray)] from rfl) (Reps.one (show Kd.M Kd.string _ _ _ (⟨#[57, 57, 57, 57, 57, 57, 57, 57, 57, 57, 57, 57, 57, 57, 57, 57, 57, 57, 57, 57, 57, 57, 57, 57, 57, 57, 57, 57, 57, 57, 57, 57, 57, 57, 57, 57, 57, 57, 57, 57, 57]⟩ : ByteArray) [.string (⟨#[57, 57, 57, 57, 57, 57, 57, 57, 57, 57, 57, 57, 57, 57, 57, 57, 57, 57, 57, 57, 57, 57, 57, 57, 57, 57, 57, 57, 57, 57, 57, 57, 57, 57, 57, 57, 57, 57, 57, 57, 57]⟩ : ByteArray)] from rfl) (Reps.none _ _)))))))))))))))))))))))))); intro v373 w33 ho34 hb hg_ hnew_; clear hg_ hnew_; (first | rw [← Ny372.out] at ho34 | (simp only [Int.reduceToNat] at ho34; rw [← Ny372.out] at ho34)); have n0_ := Aside0.mk (Kd.R_lower ho34 (below_size (by repeat (first | (with_reducible first | exact HB.out | apply below_alloc | apply pw_below_drewN | apply below_drew1) | exact HB.out)))); have n1_ := Aside0.mk (below_step (by repeat (first | (with_reducible first | exact HB.out | apply below_alloc | apply pw_below_drewN | apply below_drew1) | exact HB.out)) hb); clear HB; have HO374 := n0_; have HB := n1_; clear n0_ n1_; clear hb ho34))
          go_loopg [16] kj20 (fun kq v16 w' => ∃ (x16_3 : Int), v16 = .int .i64 x16_3 ∧ Aside0 (calamuslaw01_FixedKnown.l0 kq x13_6 x14_20 y372 x16_3 = some r) ∧ Aside0 (kq ≤ kj20) ∧ Aside0 (Kd.R Kd.string 9 w' w.heap.size (fun _ => True) v373 y372) ∧ Aside0 (Below w.heap.size w w'))
          case atStart => exact ⟨(0), (by first | rfl | (simp; done) | (simp [*]; done)), H', ⟨Nat.le_refl _⟩, ⟨by (with_reducible repeat (first | apply Kd.R_alloc | apply Kd.R_drewN | apply Kd.R_drew)); exact HO374.out⟩, ⟨by repeat (first | (with_reducible first | exact HB.out | apply below_alloc | apply pw_below_drewN | apply below_drew1) | exact HB.out)⟩⟩
          case round =>
            clear H'
            try clear c1
            try clear c2
            try clear p2
            try clear c3
            try clear c4
            try clear c5
            try clear c6
            try clear c14
            try clear c14b0
            try clear c14b1
            try clear c15
            try clear c15b0
            try clear c15b1
            try clear c16
            try clear c16b0
            try clear c16b1
            try clear c17
            try clear c17b0
            try clear c17b1
            try clear c18
            try clear c18b0
            try clear c18b1
            try clear c19
            try clear c19b0
            try clear c19b1
            try clear c20
            try clear c20b0
            try clear c20b1
            try clear c23
            try clear c23b0
            try clear c23b1
            try clear c25
            try clear c25b0
            try clear c25b1
            try clear p2
            obtain ⟨x16_3, rfl, HA, HK3, HO_15, HB⟩ := hrel
            cases gk with
            | zero => exact absurd HA.out (by simp [calamuslaw01_FixedKnown.l0])
            | succ k3 =>
              have H := HA.out
              clear HA
              simp only [calamuslaw01_FixedKnown.l0] at H
              by_cases c35 : x16_3 < (y372.length : Int)
              · rw [if_pos c35] at H
                have c35b0 : decide (x16_3 < (y372.length : Int)) = true := decide_eq_true c35
                clear c35
                by_cases c36 : 0 ≤ x16_3
                · rw [if_pos c36] at H
                  have c36b0 : decide (0 ≤ x16_3) = true := decide_eq_true c36
                  clear c36
                  replace H := Option.bind_eq_some_iff.mp H
                  obtain ⟨t376, A370, H⟩ := H
                  replace H : (if t376 = true then (calamuslaw01_FixedKnown.l0 k3 x13_6 x14_20 y372 (wrap64 (x16_3 + 1))) else (some false)) = some r := H
                  have A37 := Aside0.mk A370
                  clear A370
                  by_cases c38 : t376 = true
                  · subst c38
                    have H1 : (calamuslaw01_FixedKnown.l0 k3 x13_6 x14_20 y372 (wrap64 (x16_3 + 1))) = some r := by rw [if_pos rfl] at H; exact H
                    clear H
                    have H := H1
                    clear H1
                    have H' := Aside0.mk H
                    clear H
                    obtain ⟨Ao39, co39, eo39⟩ := Kd.R_slice HO_15.out
                    subst eo39
                    have p375 : 0 ≤ (x16_3 : Int) := of_decide_eq_true (by first | (with_reducible assumption) | assumption)
                    have q375 : x16_3 < (y372.length : Int) := of_decide_eq_true (by first | (with_reducible assumption) | assumption)
                    obtain ⟨ad375, e375, hx375_0⟩ := Kd.at_string (Kd.R_reads' HO_15.out).2.2 x16_3 p375 q375
                    cases e375
                    replace p375 := eq_true p375
                    replace q375 := eq_true q375
                    go_wp2_with (first | ((with_reducible refine gate_callee (f := 7) rfl ?_); refine goesL_ (some 104) rfl rfl Tryz.func7 (by kernel_rfl) rfl #[.string (rdOf ByteArray.empty y372 x16_3), .int .u8 ((x16_3) % 256)] rfl (by (try simp only [List.map_toArray, List.map_cons, List.map_nil]); first | done | rfl | (simp only [List.length_drop, List.length_take]; rfl)) ?_; (with_reducible refine (calamuslaw01_FixedReads.tells k3 (rdOf ByteArray.empty y372 x16_3) ((x16_3) % 256) true _ A37.out (HWF.out.below (by repeat (first | (with_reducible first | exact HB.out | apply below_alloc | apply pw_below_drewN | apply below_drew1) | exact HB.out)))).mono ?_); rintro e w40 ⟨rfl, hb⟩; refine ⟨_, rfl, ?_⟩; have n0_ := Aside0.mk (Kd.R_below (by (with_reducible repeat (first | apply Kd.R_alloc | apply Kd.R_drewN | apply Kd.R_drew)); exact HO_15.out) hb); have n1_ := Aside0.mk (below_step (by repeat (first | (with_reducible first | exact HB.out | apply below_alloc | apply pw_below_drewN | apply below_drew1) | exact HB.out)) hb); clear HO_15; clear HB; have HO_15 := n0_; have HB := n1_; clear n0_ n1_; (try clear hb); (try clear hb2); (try clear hk); (try clear hi)))
                    go_roundg k3
                    case measure => have := HJ6.out; have := HJ20.out; have := HK3.out; omega
                    case rel => exact ⟨(wrap64 (x16_3 + 1)), (by first | rfl | (simp; done) | (simp [*]; done)), H', ⟨by have := HJ6.out; have := HJ20.out; have := HK3.out; omega⟩, ⟨by (with_reducible repeat (first | apply Kd.R_alloc | apply Kd.R_drewN | apply Kd.R_drew)); exact HO_15.out⟩, ⟨by repeat (first | (with_reducible first | exact HB.out | apply below_alloc | apply pw_below_drewN | apply below_drew1) | exact HB.out)⟩⟩
                  · replace c38 := Bool.eq_false_iff.mpr c38
                    subst c38
                    have H1 : (some false) = some r := by rw [if_neg (show ¬ (false = true) by decide)] at H; exact H
                    clear H
                    have H := H1
                    clear H1
                    obtain rfl := Option.some.inj H
                    obtain ⟨Ao41, co41, eo41⟩ := Kd.R_slice HO_15.out
                    subst eo41
                    have p375 : 0 ≤ (x16_3 : Int) := of_decide_eq_true (by first | (with_reducible assumption) | assumption)
                    have q375 : x16_3 < (y372.length : Int) := of_decide_eq_true (by first | (with_reducible assumption) | assumption)
                    obtain ⟨ad375, e375, hx375_0⟩ := Kd.at_string (Kd.R_reads' HO_15.out).2.2 x16_3 p375 q375
                    cases e375
                    replace p375 := eq_true p375
                    replace q375 := eq_true q375
                    go_wp2_with (first | ((with_reducible refine gate_callee (f := 7) rfl ?_); refine goesL_ (some 104) rfl rfl Tryz.func7 (by kernel_rfl) rfl #[.string (rdOf ByteArray.empty y372 x16_3), .int .u8 ((x16_3) % 256)] rfl (by (try simp only [List.map_toArray, List.map_cons, List.map_nil]); first | done | rfl | (simp only [List.length_drop, List.length_take]; rfl)) ?_; (with_reducible refine (calamuslaw01_FixedReads.tells k3 (rdOf ByteArray.empty y372 x16_3) ((x16_3) % 256) false _ A37.out (HWF.out.below (by repeat (first | (with_reducible first | exact HB.out | apply below_alloc | apply pw_below_drewN | apply below_drew1) | exact HB.out)))).mono ?_); rintro e w42 ⟨rfl, hb⟩; refine ⟨_, rfl, ?_⟩; have n0_ := Aside0.mk (Kd.R_below (by (with_reducible repeat (first | apply Kd.R_alloc | apply Kd.R_drewN | apply Kd.R_drew)); exact HO_15.out) hb); have n1_ := Aside0.mk (below_step (by repeat (first | (with_reducible first | exact HB.out | apply below_alloc | apply pw_below_drewN | apply below_drew1) | exact HB.out)) hb); clear HO_15; clear HB; have HO_15 := n0_; have HB := n1_; clear n0_ n1_; (try clear hb); (try clear hb2); (try clear hk); (try clear hi)))
                    go_ret
                    exact ⟨by first | rfl | (simp [errW_none, errW_some] <;> rfl) | (simp [*, errW_none, errW_some] <;> rfl), by repeat (first | (with_reducible first | exact HB.out | apply below_alloc | apply pw_below_drewN | apply below_drew1) | exact HB.out)⟩
                · rw [if_neg c36] at H
                  exact absurd H (by simp)
              · rw [if_neg c35] at H
                have c35b0 : decide (x16_3 < (y372.length : Int)) = false := decide_eq_false c35
                clear c35
                replace H := Option.bind_eq_some_iff.mp H
                obtain ⟨⟨t377, t378⟩, A430, H⟩ := H
                replace H : ((fixed_Read.f k3 (⟨#[48, 46, 48, 48, 48, 48, 48, 55, 54, 50, 57, 51, 57, 52, 53, 51, 49, 50]⟩ : ByteArray)).bind fun bt379 => ((fixed_Read.f k3 (⟨#[48, 46, 48, 48, 48, 48, 48, 55, 54, 50, 57, 51, 57, 52, 53, 51, 49, 50, 53]⟩ : ByteArray)).bind fun bt381 => (calamuslaw01_FixedKnown.l1 k3 x13_6 x14_20 t377 t378 bt379.1 bt379.2 bt381.1 bt381.2 (([0, 1, (-1), 2, (-2), 65535, 65536, (-65537), 2147483648, 2147483647, (-2147483648), 4294967296, 4611686018427387904, (-4611686018427387904), 9223372036854775807, (-9223372036854775808), (-9223372036854775807)] : List Int)) 0))) = some r := H
                have A43 := Aside0.mk A430
                clear A430
                replace H := Option.bind_eq_some_iff.mp H
                obtain ⟨⟨t379, t380⟩, A440, H⟩ := H
                replace H : ((fixed_Read.f k3 (⟨#[48, 46, 48, 48, 48, 48, 48, 55, 54, 50, 57, 51, 57, 52, 53, 51, 49, 50, 53]⟩ : ByteArray)).bind fun bt381 => (calamuslaw01_FixedKnown.l1 k3 x13_6 x14_20 t377 t378 t379 t380 bt381.1 bt381.2 (([0, 1, (-1), 2, (-2), 65535, 65536, (-65537), 2147483648, 2147483647, (-2147483648), 4294967296, 4611686018427387904, (-4611686018427387904), 9223372036854775807, (-9223372036854775808), (-9223372036854775807)] : List Int)) 0)) = some r := H
                have A44 := Aside0.mk A440
                clear A440
                replace H := Option.bind_eq_some_iff.mp H
                obtain ⟨⟨t381, t382⟩, A450, H⟩ := H
                replace H : (calamuslaw01_FixedKnown.l1 k3 x13_6 x14_20 t377 t378 t379 t380 t381 t382 (([0, 1, (-1), 2, (-2), 65535, 65536, (-65537), 2147483648, 2147483647, (-2147483648), 4294967296, 4611686018427387904, (-4611686018427387904), 9223372036854775807, (-9223372036854775808), (-9223372036854775807)] : List Int)) 0) = some r := H
                have A45 := Aside0.mk A450
                clear A450
                obtain ⟨y383, hy383⟩ : ∃ y_ : List Int, y_ = (([0, 1, (-1), 2, (-2), 65535, 65536, (-65537), 2147483648, 2147483647, (-2147483648), 4294967296, 4611686018427387904, (-4611686018427387904), 9223372036854775807, (-9223372036854775808), (-9223372036854775807)] : List Int)) := ⟨_, rfl⟩
                replace H : (calamuslaw01_FixedKnown.l1 k3 x13_6 x14_20 t377 t378 t379 t380 t381 t382 y383 0) = some r := by first | (rw [hy383]; with_reducible exact H) | (have H2_ := (Option.bind_some _ _).symm.trans H; rw [hy383]; with_reducible exact H2_) | (have H2_ := (Option.bind_some _ _).symm.trans H; with_reducible exact H2_) | with_reducible exact H | (rw [hy383]; exact H) | exact H
                have Ny383 := Aside0.mk hy383
                clear hy383
                have H' := Aside0.mk H
                clear H
                obtain ⟨Ao46, co46, eo46⟩ := Kd.R_slice HO_15.out
                subst eo46
                go_wp2_with (first | ((with_reducible refine gate_callee (f := 8) rfl ?_); refine goesL_ (some 107) rfl rfl Tryz.func8 (by kernel_rfl) rfl #[.string (⟨#[45, 48, 46, 48, 48, 48, 48, 49]⟩ : ByteArray)] rfl (by (try simp only [List.map_toArray, List.map_cons, List.map_nil]); first | done | rfl | (simp only [List.length_drop, List.length_take]; rfl)) ?_; (with_reducible refine (fixed_Read.calls k3 (⟨#[45, 48, 46, 48, 48, 48, 48, 49]⟩ : ByteArray) t377 t378 _ A43.out (HWF.out.below (by repeat (first | (with_reducible first | exact HB.out | apply below_alloc | apply pw_below_drewN | apply below_drew1) | exact HB.out)))).mono ?_); rintro e w47 ⟨rfl, hb⟩; refine ⟨_, rfl, ?_⟩; have n0_ := Aside0.mk (Kd.R_below (by (with_reducible repeat (first | apply Kd.R_alloc | apply Kd.R_drewN | apply Kd.R_drew)); exact HO_15.out) hb); have n1_ := Aside0.mk (below_step (by repeat (first | (with_reducible first | exact HB.out | apply below_alloc | apply pw_below_drewN | apply below_drew1) | exact HB.out)) hb); clear HO_15; clear HB; have HO_15 := n0_; have HB := n1_; clear n0_ n1_; (try clear hb); (try clear hb2); (try clear hk); (try clear hi)) | ((with_reducible refine gate_callee (f := 8) rfl ?_); refine goesL_ (some 111) rfl rfl Tryz.func8 (by kernel_rfl) rfl #[.string (⟨#[48, 46, 48, 48, 48, 48, 48, 55, 54, 50, 57, 51, 57, 52, 53, 51, 49, 50]⟩ : ByteArray)] rfl (by (try simp only [List.map_toArray, List.map_cons, List.map_nil]); first | done | rfl | (simp only [List.length_drop, List.length_take]; rfl)) ?_; (with_reducible refine (fixed_Read.calls k3 (⟨#[48, 46, 48, 48, 48, 48, 48, 55, 54, 50, 57, 51, 57, 52, 53, 51, 49, 50]⟩ : ByteArray) t379 t380 _ A44.out (HWF.out.below (by repeat (first | (with_reducible first | exact HB.out | apply below_alloc | apply pw_below_drewN | apply below_drew1) | exact HB.out)))).mono ?_); rintro e w48 ⟨rfl, hb⟩; refine ⟨_, rfl, ?_⟩; have n0_ := Aside0.mk (Kd.R_below (by (with_reducible repeat (first | apply Kd.R_alloc | apply Kd.R_drewN | apply Kd.R_drew)); exact HO_15.out) hb); have n1_ := Aside0.mk (below_step (by repeat (first | (with_reducible first | exact HB.out | apply below_alloc | apply pw_below_drewN | apply below_drew1) | exact HB.out)) hb); clear HO_15; clear HB; have HO_15 := n0_; have HB := n1_; clear n0_ n1_; (try clear hb); (try clear hb2); (try clear hk); (try clear hi)) | ((with_reducible refine gate_callee (f := 8) rfl ?_); refine goesL_ (some 115) rfl rfl Tryz.func8 (by kernel_rfl) rfl #[.string (⟨#[48, 46, 48, 48, 48, 48, 48, 55, 54, 50, 57, 51, 57, 52, 53, 51, 49, 50, 53]⟩ : ByteArray)] rfl (by (try simp only [List.map_toArray, List.map_cons, List.map_nil]); first | done | rfl | (simp only [List.length_drop, List.length_take]; rfl)) ?_; (with_reducible refine (fixed_Read.calls k3 (⟨#[48, 46, 48, 48, 48, 48, 48, 55, 54, 50, 57, 51, 57, 52, 53, 51, 49, 50, 53]⟩ : ByteArray) t381 t382 _ A45.out (HWF.out.below (by repeat (first | (with_reducible first | exact HB.out | apply below_alloc | apply pw_below_drewN | apply below_drew1) | exact HB.out)))).mono ?_); rintro e w49 ⟨rfl, hb⟩; refine ⟨_, rfl, ?_⟩; have n0_ := Aside0.mk (Kd.R_below (by (with_reducible repeat (first | apply Kd.R_alloc | apply Kd.R_drewN | apply Kd.R_drew)); exact HO_15.out) hb); have n1_ := Aside0.mk (below_step (by repeat (first | (with_reducible first | exact HB.out | apply below_alloc | apply pw_below_drewN | apply below_drew1) | exact HB.out)) hb); clear HO_15; clear HB; have HO_15 := n0_; have HB := n1_; clear n0_ n1_; (try clear hb); (try clear hb2); (try clear hk); (try clear hi)) | ((with_reducible refine gate_dst (N := 118) rfl ?_); refine Kd.R_lit (Kd.int .i64) _ 2 ?hg (N := 118) ?hd (xs := ([0, 1, (-1), 2, (-2), 65535, 65536, (-65537), 2147483648, 2147483647, (-2147483648), 4294967296, 4611686018427387904, (-4611686018427387904), 9223372036854775807, (-9223372036854775808), (-9223372036854775807)] : List Int)) (inner := [.int .i64 0, .int .i64 1, .int .i64 (-1), .int .i64 2, .int .i64 (-2), .int .i64 65535, .int .i64 65536, .int .i64 (-65537), .int .i64 2147483648, .int .i64 2147483647, .int .i64 (-2147483648), .int .i64 4294967296, .int .i64 4611686018427387904, .int .i64 (-4611686018427387904), .int .i64 9223372036854775807, .int .i64 (-9223372036854775808), .int .i64 (-9223372036854775807)]) (ok := fun _ => True) (okp := fun _ => True) ?hr ?hp (fun _ hk => hk) trivial (Below.refl _ _) (Nat.le_refl _) (by simp) ?_; (case hd => rfl); (case hg => rfl); (case hr => first | (go_simp; done) | (go_simp; rfl)); (case hp => exact (Reps.one (show Kd.M (Kd.int .i64) _ _ _ 0 [.int .i64 0] from rfl) (Reps.one (show Kd.M (Kd.int .i64) _ _ _ 1 [.int .i64 1] from rfl) (Reps.one (show Kd.M (Kd.int .i64) _ _ _ (-1) [.int .i64 (-1)] from rfl) (Reps.one (show Kd.M (Kd.int .i64) _ _ _ 2 [.int .i64 2] from rfl) (Reps.one (show Kd.M (Kd.int .i64) _ _ _ (-2) [.int .i64 (-2)] from rfl) (Reps.one (show Kd.M (Kd.int .i64) _ _ _ 65535 [.int .i64 65535] from rfl) (Reps.one (show Kd.M (Kd.int .i64) _ _ _ 65536 [.int .i64 65536] from rfl) (Reps.one (show Kd.M (Kd.int .i64) _ _ _ (-65537) [.int .i64 (-65537)] from rfl) (Reps.one (show Kd.M (Kd.int .i64) _ _ _ 2147483648 [.int .i64 2147483648] from rfl) (Reps.one (show Kd.M (Kd.int .i64) _ _ _ 2147483647 [.int .i64 2147483647] from rfl) (Reps.one (show Kd.M (Kd.int .i64) _ _ _ (-2147483648) [.int .i64 (-2147483648)] from rfl) (Reps.one (show Kd.M (Kd.int .i64) _ _ _ 4294967296 [.int .i64 4294967296] from rfl) (Reps.one (show Kd.M (Kd.int .i64) _ _ _ 4611686018427387904 [.int .i64 4611686018427387904] from rfl) (Reps.one (show Kd.M (Kd.int .i64) _ _ _ (-4611686018427387904) [.int .i64 (-4611686018427387904)] from rfl) (Reps.one (show Kd.M (Kd.int .i64) _ _ _ 9223372036854775807 [.int .i64 9223372036854775807] from rfl) (Reps.one (show Kd.M (Kd.int .i64) _ _ _ (-9223372036854775808) [.int .i64 (-9223372036854775808)] from rfl) (Reps.one (show Kd.M (Kd.int .i64) _ _ _ (-9223372036854775807) [.int .i64 (-9223372036854775807)] from rfl) (Reps.none _ _))))))))))))))))))); intro v384 w50 ho51 hb hg_ hnew_; clear hg_ hnew_; (first | rw [← Ny383.out] at ho51 | (simp only [Int.reduceToNat] at ho51; rw [← Ny383.out] at ho51)); have n0_ := Aside0.mk (Kd.R_below (by (with_reducible repeat (first | apply Kd.R_alloc | apply Kd.R_drewN | apply Kd.R_drew)); exact HO_15.out) hb); have n1_ := Aside0.mk (Kd.R_lower ho51 (below_size (by repeat (first | (with_reducible first | exact HB.out | apply below_alloc | apply pw_below_drewN | apply below_drew1) | exact HB.out)))); have n2_ := Aside0.mk (below_step (by repeat (first | (with_reducible first | exact HB.out | apply below_alloc | apply pw_below_drewN | apply below_drew1) | exact HB.out)) hb); clear HO_15; clear HB; have HO_15 := n0_; have HO385 := n1_; have HB := n2_; clear n0_ n1_ n2_; clear hb ho51))
                go_loopg [24] k3 (fun kq v24 w' => ∃ (x24_4 : Int), v24 = .int .i64 x24_4 ∧ Aside0 (calamuslaw01_FixedKnown.l1 kq x13_6 x14_20 t377 t378 t379 t380 t381 t382 y383 x24_4 = some r) ∧ Aside0 (kq ≤ k3) ∧ Aside0 (Kd.R (Kd.int .i64) 2 w' w.heap.size (fun _ => True) v384 y383) ∧ Aside0 (Below w.heap.size w w'))
                case atStart => exact ⟨(0), (by first | rfl | (simp; done) | (simp [*]; done)), H', ⟨Nat.le_refl _⟩, ⟨by (with_reducible repeat (first | apply Kd.R_alloc | apply Kd.R_drewN | apply Kd.R_drew)); exact HO385.out⟩, ⟨by repeat (first | (with_reducible first | exact HB.out | apply below_alloc | apply pw_below_drewN | apply below_drew1) | exact HB.out)⟩⟩
                case round =>
                  clear H'
                  try clear c1
                  try clear c2
                  try clear p2
                  try clear c3
                  try clear p3
                  try clear q3
                  try clear hx3
                  try clear c4
                  try clear c5
                  try clear c6
                  try clear p6
                  try clear c7
                  try clear c8
                  try clear c14
                  try clear c14b0
                  try clear c14b1
                  try clear c15
                  try clear c15b0
                  try clear c15b1
                  try clear c16
                  try clear c16b0
                  try clear c16b1
                  try clear c17
                  try clear c17b0
                  try clear c17b1
                  try clear c18
                  try clear c18b0
                  try clear c18b1
                  try clear c19
                  try clear c19b0
                  try clear c19b1
                  try clear c20
                  try clear c20b0
                  try clear c20b1
                  try clear c23
                  try clear c23b0
                  try clear c23b1
                  try clear c25
                  try clear c25b0
                  try clear c25b1
                  try clear c35
                  try clear c35b0
                  try clear c36
                  try clear c36b0
                  try clear p37
                  try clear q37
                  try clear hx37
                  try clear c38
                  try clear hx375_0
                  try clear p2
                  try clear p375
                  try clear q375
                  obtain ⟨x24_4, rfl, HA, HK4, HO_23, HB⟩ := hrel
                  cases gk with
                  | zero => exact absurd HA.out (by simp [calamuslaw01_FixedKnown.l1])
                  | succ k4 =>
                    have H := HA.out
                    clear HA
                    simp only [calamuslaw01_FixedKnown.l1] at H
                    by_cases c52 : x24_4 < (y383.length : Int)
                    · rw [if_pos c52] at H
                      have c52b0 : decide (x24_4 < (y383.length : Int)) = true := decide_eq_true c52
                      clear c52
                      have H' := Aside0.mk H
                      clear H
                      obtain ⟨Ao53, co53, eo53⟩ := Kd.R_slice HO_23.out
                      subst eo53
                      go_wp2
                      go_loopg [25] k4 (fun kq v25 w' => ∃ (x25_5 : Int), v25 = .int .i64 x25_5 ∧ Aside0 (calamuslaw01_FixedKnown.l2 kq x13_6 x14_20 t377 t378 t379 t380 t381 t382 y383 x24_4 x25_5 = some r) ∧ Aside0 (kq ≤ k4) ∧ Aside0 (Kd.R (Kd.int .i64) 2 w' w.heap.size (fun _ => True) (.slice Ao53 y383.length co53) y383) ∧ Aside0 (Below w.heap.size w w'))
                      case atStart => exact ⟨(0), (by first | rfl | (simp; done) | (simp [*]; done)), H', ⟨Nat.le_refl _⟩, ⟨by (with_reducible repeat (first | apply Kd.R_alloc | apply Kd.R_drewN | apply Kd.R_drew)); exact HO_23.out⟩, ⟨by repeat (first | (with_reducible first | exact HB.out | apply below_alloc | apply pw_below_drewN | apply below_drew1) | exact HB.out)⟩⟩
                      case round =>
                        clear H'
                        try clear c1
                        try clear c2
                        try clear p2
                        try clear c3
                        try clear p3
                        try clear q3
                        try clear hx3
                        try clear c4
                        try clear c5
                        try clear c6
                        try clear p6
                        try clear c7
                        try clear c8
                        try clear c14
                        try clear c14b0
                        try clear c14b1
                        try clear c15
                        try clear c15b0
                        try clear c15b1
                        try clear c16
                        try clear c16b0
                        try clear c16b1
                        try clear c17
                        try clear c17b0
                        try clear c17b1
                        try clear c18
                        try clear c18b0
                        try clear c18b1
                        try clear c19
                        try clear c19b0
                        try clear c19b1
                        try clear c20
                        try clear c20b0
                        try clear c20b1
                        try clear c23
                        try clear c23b0
                        try clear c23b1
                        try clear c25
                        try clear c25b0
                        try clear c25b1
                        try clear c35
                        try clear c35b0
                        try clear c36
                        try clear c36b0
                        try clear p37
                        try clear q37
                        try clear hx37
                        try clear c38
                        try clear c52
                        try clear c52b0
                        try clear hx375_0
                        try clear p2
                        try clear p3
                        try clear p37
                        try clear p375
                        try clear p6
                        try clear q3
                        try clear q37
                        try clear q375
                        obtain ⟨x25_5, rfl, HA, HK5, HO_23, HB⟩ := hrel
                        cases gk with
                        | zero => exact absurd HA.out (by simp [calamuslaw01_FixedKnown.l2])
                        | succ k5 =>
                          have H := HA.out
                          clear HA
                          simp only [calamuslaw01_FixedKnown.l2] at H
                          by_cases c54 : x25_5 < (y383.length : Int)
                          · rw [if_pos c54] at H
                            have c54b0 : decide (x25_5 < (y383.length : Int)) = true := decide_eq_true c54
                            clear c54
                            have H' := Aside0.mk H
                            clear H
                            go_wp2
                            go_loopg [26] k5 (fun kq v26 w' => ∃ (x26_6 : Int), v26 = .int .i64 x26_6 ∧ Aside0 (calamuslaw01_FixedKnown.l3 kq x13_6 x14_20 t377 t378 t379 t380 t381 t382 y383 x24_4 x25_5 x26_6 = some r) ∧ Aside0 (kq ≤ k5) ∧ Aside0 (Kd.R (Kd.int .i64) 2 w' w.heap.size (fun _ => True) (.slice Ao53 y383.length co53) y383) ∧ Aside0 (Below w.heap.size w w'))
                            case atStart => exact ⟨(0), (by first | rfl | (simp; done) | (simp [*]; done)), H', ⟨Nat.le_refl _⟩, ⟨by (with_reducible repeat (first | apply Kd.R_alloc | apply Kd.R_drewN | apply Kd.R_drew)); exact HO_23.out⟩, ⟨by repeat (first | (with_reducible first | exact HB.out | apply below_alloc | apply pw_below_drewN | apply below_drew1) | exact HB.out)⟩⟩
                            case round =>
                              clear H'
                              try clear c1
                              try clear c2
                              try clear p2
                              try clear c3
                              try clear p3
                              try clear q3
                              try clear hx3
                              try clear c4
                              try clear c5
                              try clear c6
                              try clear p6
                              try clear c7
                              try clear c8
                              try clear c14
                              try clear c14b0
                              try clear c14b1
                              try clear c15
                              try clear c15b0
                              try clear c15b1
                              try clear c16
                              try clear c16b0
                              try clear c16b1
                              try clear c17
                              try clear c17b0
                              try clear c17b1
                              try clear c18
                              try clear c18b0
                              try clear c18b1
                              try clear c19
                              try clear c19b0
                              try clear c19b1
                              try clear c20
                              try clear c20b0
                              try clear c20b1
                              try clear c23
                              try clear c23b0
                              try clear c23b1
                              try clear c25
                              try clear c25b0
                              try clear c25b1
                              try clear c35
                              try clear c35b0
                              try clear c36
                              try clear c36b0
                              try clear p37
                              try clear q37
                              try clear hx37
                              try clear c38
                              try clear c52
                              try clear c52b0
                              try clear c54
                              try clear c54b0
                              try clear hx375_0
                              try clear p2
                              try clear p3
                              try clear p37
                              try clear p375
                              try clear p6
                              try clear q3
                              try clear q37
                              try clear q375
                              obtain ⟨x26_6, rfl, HA, HK6, HO_23, HB⟩ := hrel
                              cases gk with
                              | zero => exact absurd HA.out (by simp [calamuslaw01_FixedKnown.l3])
                              | succ k6 =>
                                have H := HA.out
                                clear HA
                                simp only [calamuslaw01_FixedKnown.l3] at H
                                by_cases c55 : x26_6 < (y383.length : Int)
                                · rw [if_pos c55] at H
                                  have c55b0 : decide (x26_6 < (y383.length : Int)) = true := decide_eq_true c55
                                  clear c55
                                  by_cases c56 : 0 ≤ x24_4
                                  · rw [if_pos c56] at H
                                    have c56b0 : decide (0 ≤ x24_4) = true := decide_eq_true c56
                                    clear c56
                                    by_cases c57 : x24_4 < (y383.length : Int)
                                    · rw [if_pos c57] at H
                                      have c57b0 : decide (x24_4 < (y383.length : Int)) = true := decide_eq_true c57
                                      clear c57
                                      by_cases c58 : 0 ≤ x25_5
                                      · rw [if_pos c58] at H
                                        have c58b0 : decide (0 ≤ x25_5) = true := decide_eq_true c58
                                        clear c58
                                        by_cases c59 : x25_5 < (y383.length : Int)
                                        · rw [if_pos c59] at H
                                          have c59b0 : decide (x25_5 < (y383.length : Int)) = true := decide_eq_true c59
                                          clear c59
                                          by_cases c60 : 0 ≤ x26_6
                                          · rw [if_pos c60] at H
                                            have c60b0 : decide (0 ≤ x26_6) = true := decide_eq_true c60
                                            clear c60
                                            replace H := Option.bind_eq_some_iff.mp H
                                            obtain ⟨t394, A610, H⟩ := H
                                            replace H : (if t394 = true then (calamuslaw01_FixedKnown.l3 k6 x13_6 x14_20 t377 t378 t379 t380 t381 t382 y383 x24_4 x25_5 (wrap64 (x26_6 + 3))) else (some false)) = some r := H
                                            have A61 := Aside0.mk A610
                                            clear A610
                                            by_cases c62 : t394 = true
                                            · as_aux_lemma =>
                                               subst c62
                                               have H1 : (calamuslaw01_FixedKnown.l3 k6 x13_6 x14_20 t377 t378 t379 t380 t381 t382 y383 x24_4 x25_5 (wrap64 (x26_6 + 3))) = some r := by rw [if_pos rfl] at H; exact H
                                               clear H
                                               have H := H1
                                               clear H1
                                               have H' := Aside0.mk H
                                               clear H
                                               try go_wp2
                                               have n0_ := Aside0.mk (Kd.R_drew HO_23.out)
                                               have n1_ := Aside0.mk (below_drew1 HB.out)
                                               clear HO_23
                                               clear HB
                                               have HO_23 := n0_
                                               have HB := n1_
                                               clear n0_ n1_
                                               have p391 : 0 ≤ (x24_4 : Int) := of_decide_eq_true (by first | (with_reducible assumption) | assumption)
                                               have q391 : x24_4 < (y383.length : Int) := of_decide_eq_true (by first | (with_reducible assumption) | assumption)
                                               obtain ⟨ad391, e391, hx391_0⟩ := Kd.at_int (Kd.R_reads' HO_23.out).2.2 x24_4 p391 q391
                                               cases e391
                                               replace p391 := eq_true p391
                                               replace q391 := eq_true q391
                                               have p392 : 0 ≤ (x25_5 : Int) := of_decide_eq_true (by first | (with_reducible assumption) | assumption)
                                               have q392 : x25_5 < (y383.length : Int) := of_decide_eq_true (by first | (with_reducible assumption) | assumption)
                                               obtain ⟨ad392, e392, hx392_0⟩ := Kd.at_int (Kd.R_reads' HO_23.out).2.2 x25_5 p392 q392
                                               obtain rfl : ad391 = ad392 := (by injection e392)
                                               replace p392 := eq_true p392
                                               replace q392 := eq_true q392
                                               have p393 : 0 ≤ (x26_6 : Int) := of_decide_eq_true (by first | (with_reducible assumption) | assumption)
                                               have q393 : x26_6 < (y383.length : Int) := of_decide_eq_true (by first | (with_reducible assumption) | assumption)
                                               obtain ⟨ad393, e393, hx393_0⟩ := Kd.at_int (Kd.R_reads' HO_23.out).2.2 x26_6 p393 q393
                                               obtain rfl : ad391 = ad393 := (by injection e393)
                                               replace p393 := eq_true p393
                                               replace q393 := eq_true q393
                                               refine start_ (n := 14) (S := fun w' => w'.cell? (ad391.add (x24_4).toNat) = some (.int .i64 (rd y383 x24_4)) ∧ w'.cell? (ad391.add (x25_5).toNat) = some (.int .i64 (rd y383 x25_5)) ∧ w'.cell? (ad391.add (x26_6).toNat) = some (.int .i64 (rd y383 x26_6))) (ds := []) #[false, false, false, false, false, false, false, false, false, false, false, false, false, false] (by kernel_rfl) rfl rfl ⟨hx391_0, hx392_0, hx393_0⟩ (fun hHeld => ?_); refine with_tabW calamuslaw01_FixedKnown.tab28 calamuslaw01_FixedKnown.bits28 (fun HT_ HW_ => ?_)
                                               generalize wr.drew = w63 at HO_23 HB hx391_0 hx392_0 hx393_0 hHeld ⊢
                                               refine pure_ (i := 0) (N := some 137) (v := ?_) (a' := ?_) #[true, false, false, false, false, false, false, false, false, false, false, false, false, false] rfl rfl (any_of HT_.out (by kernel_rfl)) (fun _ _ _ h => h) (Or.inl ⟨by rfl, ?_⟩) ?_ ?_
                                               rotate_left
                                               · intro w'
                                                 go_simp
                                                 with_reducible rfl
                                               rotate_left
                                               · simp only [Act.put, List.setIfInBounds_toArray, List.set_cons_zero, List.set_cons_succ, i64_w, i32_w]
                                                 rfl
                                               refine pure_ (i := 1) (N := some 138) (v := ?_) (a' := ?_) #[true, true, false, false, false, false, false, false, false, false, false, false, false, false] rfl rfl (any_of HT_.out (by kernel_rfl)) (fun _ _ _ h => h) (Or.inl ⟨by rfl, ?_⟩) ?_ ?_
                                               rotate_left
                                               · intro w'
                                                 go_simp
                                                 with_reducible rfl
                                               rotate_left
                                               · simp only [Act.put, List.setIfInBounds_toArray, List.set_cons_zero, List.set_cons_succ, i64_w, i32_w]
                                                 rfl
                                               refine pure_ (i := 2) (N := some 139) (v := ?_) (a' := ?_) #[true, true, true, false, false, false, false, false, false, false, false, false, false, false] rfl rfl (any_of HT_.out (by kernel_rfl)) (fun _ _ _ h => h) (Or.inl ⟨by rfl, ?_⟩) ?_ ?_
                                               rotate_left
                                               · intro w'
                                                 go_simp
                                                 with_reducible rfl
                                               rotate_left
                                               · simp only [Act.put, List.setIfInBounds_toArray, List.set_cons_zero, List.set_cons_succ, i64_w, i32_w]
                                                 rfl
                                               refine pure_ (i := 4) (N := some 141) (v := ?_) (a' := ?_) #[true, true, true, false, true, false, false, false, false, false, false, false, false, false] rfl rfl (any_of HT_.out (by kernel_rfl)) (fun _ _ _ h => h) (Or.inl ⟨by rfl, ?_⟩) ?_ ?_
                                               rotate_left
                                               · intro w'
                                                 go_simp
                                                 with_reducible rfl
                                               rotate_left
                                               · simp only [Act.put, List.setIfInBounds_toArray, List.set_cons_zero, List.set_cons_succ, i64_w, i32_w]
                                                 rfl
                                               refine pure_ (i := 5) (N := some 142) (v := ?_) (a' := ?_) #[true, true, true, false, true, true, false, false, false, false, false, false, false, false] rfl rfl (any_of HT_.out (by kernel_rfl)) (fun _ _ _ h => h) (Or.inl ⟨by rfl, ?_⟩) ?_ ?_
                                               rotate_left
                                               · intro w'
                                                 go_simp
                                                 with_reducible rfl
                                               rotate_left
                                               · simp only [Act.put, List.setIfInBounds_toArray, List.set_cons_zero, List.set_cons_succ, i64_w, i32_w]
                                                 rfl
                                               refine pure_ (i := 6) (N := some 143) (v := ?_) (a' := ?_) #[true, true, true, false, true, true, true, false, false, false, false, false, false, false] rfl rfl (any_of HT_.out (by kernel_rfl)) (fun _ _ _ h => h) (Or.inl ⟨by rfl, ?_⟩) ?_ ?_
                                               rotate_left
                                               · intro w'
                                                 go_simp
                                                 with_reducible rfl
                                               rotate_left
                                               · simp only [Act.put, List.setIfInBounds_toArray, List.set_cons_zero, List.set_cons_succ, i64_w, i32_w]
                                                 rfl
                                               refine pure_ (i := 8) (N := some 145) (v := ?_) (a' := ?_) #[true, true, true, false, true, true, true, false, true, false, false, false, false, false] rfl rfl (any_of HT_.out (by kernel_rfl)) (fun _ _ _ h => h) (Or.inl ⟨by rfl, ?_⟩) ?_ ?_
                                               rotate_left
                                               · intro w'
                                                 go_simp
                                                 with_reducible rfl
                                               rotate_left
                                               · simp only [Act.put, List.setIfInBounds_toArray, List.set_cons_zero, List.set_cons_succ, i64_w, i32_w]
                                                 rfl
                                               refine pure_ (i := 9) (N := some 146) (v := ?_) (a' := ?_) #[true, true, true, false, true, true, true, false, true, true, false, false, false, false] rfl rfl (any_of HT_.out (by kernel_rfl)) (fun _ _ _ h => h) (Or.inl ⟨by rfl, ?_⟩) ?_ ?_
                                               rotate_left
                                               · intro w'
                                                 go_simp
                                                 with_reducible rfl
                                               rotate_left
                                               · simp only [Act.put, List.setIfInBounds_toArray, List.set_cons_zero, List.set_cons_succ, i64_w, i32_w]
                                                 rfl
                                               refine pure_ (i := 10) (N := some 147) (v := ?_) (a' := ?_) #[true, true, true, false, true, true, true, false, true, true, true, false, false, false] rfl rfl (any_of HT_.out (by kernel_rfl)) (fun _ _ _ h => h) (Or.inl ⟨by rfl, ?_⟩) ?_ ?_
                                               rotate_left
                                               · intro w'
                                                 go_simp
                                                 with_reducible rfl
                                               rotate_left
                                               · simp only [Act.put, List.setIfInBounds_toArray, List.set_cons_zero, List.set_cons_succ, i64_w, i32_w]
                                                 rfl
                                               refine take_ (i := 3) (N := some 140) (v := ?_) (a' := ?_) #[true, true, true, true, true, true, true, false, true, true, true, false, false, false] rfl rfl (take_ofW HT_.out HW_.out (by kernel_rfl)) (fun _ _ _ h => h) (Or.inl ⟨by rfl, ?_⟩) hHeld ?_ ?_
                                               rotate_left
                                               · rintro w' ⟨s0, s1, s2⟩
                                                 go_simp
                                                 with_reducible rfl
                                               rotate_left
                                               · simp only [Act.put, List.setIfInBounds_toArray, List.set_cons_zero, List.set_cons_succ, i64_w, i32_w]
                                                 rfl
                                               refine take_ (i := 7) (N := some 144) (v := ?_) (a' := ?_) #[true, true, true, true, true, true, true, true, true, true, true, false, false, false] rfl rfl (take_ofW HT_.out HW_.out (by kernel_rfl)) (fun _ _ _ h => h) (Or.inl ⟨by rfl, ?_⟩) hHeld ?_ ?_
                                               rotate_left
                                               · rintro w' ⟨s0, s1, s2⟩
                                                 go_simp
                                                 with_reducible rfl
                                               rotate_left
                                               · simp only [Act.put, List.setIfInBounds_toArray, List.set_cons_zero, List.set_cons_succ, i64_w, i32_w]
                                                 rfl
                                               refine take_ (i := 11) (N := some 148) (v := ?_) (a' := ?_) #[true, true, true, true, true, true, true, true, true, true, true, true, false, false] rfl rfl (take_ofW HT_.out HW_.out (by kernel_rfl)) (fun _ _ _ h => h) (Or.inl ⟨by rfl, ?_⟩) hHeld ?_ ?_
                                               rotate_left
                                               · rintro w' ⟨s0, s1, s2⟩
                                                 go_simp
                                                 with_reducible rfl
                                               rotate_left
                                               · simp only [Act.put, List.setIfInBounds_toArray, List.set_cons_zero, List.set_cons_succ, i64_w, i32_w]
                                                 rfl
                                               refine one_ (i := 12) (N := some 149) #[true, true, true, true, true, true, true, true, true, true, true, true, true, false] rfl rfl (one_of HT_.out (by kernel_rfl)) (by decide) (fun K hK => ?_)
                                               refine goes_ Tryz.func9 (by kernel_rfl) rfl #[.int .i64 (rd y383 x24_4), .int .i64 (rd y383 x25_5), .int .i64 (rd y383 x26_6)] (by rfl) rfl rfl (by (try simp only [List.map_toArray, List.map_cons, List.map_nil]); first | done | rfl | (simp only [List.length_drop, List.length_take]; rfl)) ?_
                                               with_reducible refine (calamuslaw01_FixedQuotients.calls k6 (rd y383 x24_4) (rd y383 x25_5) (rd y383 x26_6) true _ A61.out (HWF.out.below (by repeat (first | (with_reducible first | exact HB.out | apply below_alloc | apply pw_below_drewN | apply below_drew1) | exact HB.out)))).mono ?_
                                               rintro e w64 ⟨rfl, hb⟩
                                               have HS0_ := (hb.cell (World.block_lt_of_cell? _ _ (hHeld.1))).trans (hHeld.1)
                                               have HS1_ := (hb.cell (World.block_lt_of_cell? _ _ (hHeld.2.1))).trans (hHeld.2.1)
                                               have HS2_ := (hb.cell (World.block_lt_of_cell? _ _ (hHeld.2.2))).trans (hHeld.2.2)
                                               refine ⟨_, rfl, ?_⟩
                                               have n0_ := Aside0.mk (Kd.R_below (by (with_reducible repeat (first | apply Kd.R_alloc | apply Kd.R_drewN | apply Kd.R_drew)); exact HO_23.out) hb)
                                               have n1_ := Aside0.mk (below_step (by repeat (first | (with_reducible first | exact HB.out | apply below_alloc | apply pw_below_drewN | apply below_drew1) | exact HB.out)) hb)
                                               clear HO_23
                                               clear HB
                                               have HO_23 := n0_
                                               have HB := n1_
                                               clear n0_ n1_
                                               (try clear hb)
                                               (try clear hb2)
                                               (try clear hk)
                                               (try clear hi)
                                               refine hK.out _ _ ⟨HS0_, HS1_, HS2_⟩ (fun hHeld => ?_)
                                               clear hK K
                                               refine norm_ (a' := ?_) ?_ ?_
                                               rotate_left
                                               · show Act.put _ (some 149) _ = _
                                                 simp only [Act.put, List.setIfInBounds_toArray, List.set_cons_zero, List.set_cons_succ, i64_w, i32_w]
                                                 rfl
                                               refine pure_ (i := 13) (N := some 150) (v := ?_) (a' := ?_) #[true, true, true, true, true, true, true, true, true, true, true, true, true, true] rfl rfl (any_of HT_.out (by kernel_rfl)) (fun _ _ _ h => h) (Or.inl ⟨by rfl, ?_⟩) ?_ ?_
                                               rotate_left
                                               · intro w'
                                                 go_simp
                                                 with_reducible rfl
                                               rotate_left
                                               · simp only [Act.put, List.setIfInBounds_toArray, List.set_cons_zero, List.set_cons_succ, i64_w, i32_w]
                                                 rfl
                                               refine done_ (done_of HT_.out (by kernel_rfl)) ?_
                                               try go_wp2
                                               go_roundg k6
                                               case measure => have := HJ6.out; have := HJ20.out; have := HK3.out; have := HK4.out; have := HK5.out; have := HK6.out; omega
                                               case rel => exact ⟨(wrap64 (x26_6 + 3)), (by first | rfl | (simp; done) | (simp [*]; done)), H', ⟨by have := HJ6.out; have := HJ20.out; have := HK3.out; have := HK4.out; have := HK5.out; have := HK6.out; omega⟩, ⟨by (with_reducible repeat (first | apply Kd.R_alloc | apply Kd.R_drewN | apply Kd.R_drew)); exact HO_23.out⟩, ⟨by repeat (first | (with_reducible first | exact HB.out | apply below_alloc | apply pw_below_drewN | apply below_drew1) | exact HB.out)⟩⟩
                                            · as_aux_lemma =>
                                               replace c62 := Bool.eq_false_iff.mpr c62
                                               subst c62
                                               have H1 : (some false) = some r := by rw [if_neg (show ¬ (false = true) by decide)] at H; exact H
                                               clear H
                                               have H := H1
                                               clear H1
                                               obtain rfl := Option.some.inj H
                                               try go_wp2
                                               have n0_ := Aside0.mk (Kd.R_drew HO_23.out)
                                               have n1_ := Aside0.mk (below_drew1 HB.out)
                                               clear HO_23
                                               clear HB
                                               have HO_23 := n0_
                                               have HB := n1_
                                               clear n0_ n1_
                                               have p391 : 0 ≤ (x24_4 : Int) := of_decide_eq_true (by first | (with_reducible assumption) | assumption)
                                               have q391 : x24_4 < (y383.length : Int) := of_decide_eq_true (by first | (with_reducible assumption) | assumption)
                                               obtain ⟨ad391, e391, hx391_0⟩ := Kd.at_int (Kd.R_reads' HO_23.out).2.2 x24_4 p391 q391
                                               cases e391
                                               replace p391 := eq_true p391
                                               replace q391 := eq_true q391
                                               have p392 : 0 ≤ (x25_5 : Int) := of_decide_eq_true (by first | (with_reducible assumption) | assumption)
                                               have q392 : x25_5 < (y383.length : Int) := of_decide_eq_true (by first | (with_reducible assumption) | assumption)
                                               obtain ⟨ad392, e392, hx392_0⟩ := Kd.at_int (Kd.R_reads' HO_23.out).2.2 x25_5 p392 q392
                                               obtain rfl : ad391 = ad392 := (by injection e392)
                                               replace p392 := eq_true p392
                                               replace q392 := eq_true q392
                                               have p393 : 0 ≤ (x26_6 : Int) := of_decide_eq_true (by first | (with_reducible assumption) | assumption)
                                               have q393 : x26_6 < (y383.length : Int) := of_decide_eq_true (by first | (with_reducible assumption) | assumption)
                                               obtain ⟨ad393, e393, hx393_0⟩ := Kd.at_int (Kd.R_reads' HO_23.out).2.2 x26_6 p393 q393
                                               obtain rfl : ad391 = ad393 := (by injection e393)
                                               replace p393 := eq_true p393
                                               replace q393 := eq_true q393
                                               refine start_ (n := 14) (S := fun w' => w'.cell? (ad391.add (x24_4).toNat) = some (.int .i64 (rd y383 x24_4)) ∧ w'.cell? (ad391.add (x25_5).toNat) = some (.int .i64 (rd y383 x25_5)) ∧ w'.cell? (ad391.add (x26_6).toNat) = some (.int .i64 (rd y383 x26_6))) (ds := []) #[false, false, false, false, false, false, false, false, false, false, false, false, false, false] (by kernel_rfl) rfl rfl ⟨hx391_0, hx392_0, hx393_0⟩ (fun hHeld => ?_); refine with_tabW calamuslaw01_FixedKnown.tab28 calamuslaw01_FixedKnown.bits28 (fun HT_ HW_ => ?_)
                                               generalize wr.drew = w65 at HO_23 HB hx391_0 hx392_0 hx393_0 hHeld ⊢
                                               refine pure_ (i := 0) (N := some 137) (v := ?_) (a' := ?_) #[true, false, false, false, false, false, false, false, false, false, false, false, false, false] rfl rfl (any_of HT_.out (by kernel_rfl)) (fun _ _ _ h => h) (Or.inl ⟨by rfl, ?_⟩) ?_ ?_
                                               rotate_left
                                               · intro w'
                                                 go_simp
                                                 with_reducible rfl
                                               rotate_left
                                               · simp only [Act.put, List.setIfInBounds_toArray, List.set_cons_zero, List.set_cons_succ, i64_w, i32_w]
                                                 rfl
                                               refine pure_ (i := 1) (N := some 138) (v := ?_) (a' := ?_) #[true, true, false, false, false, false, false, false, false, false, false, false, false, false] rfl rfl (any_of HT_.out (by kernel_rfl)) (fun _ _ _ h => h) (Or.inl ⟨by rfl, ?_⟩) ?_ ?_
                                               rotate_left
                                               · intro w'
                                                 go_simp
                                                 with_reducible rfl
                                               rotate_left
                                               · simp only [Act.put, List.setIfInBounds_toArray, List.set_cons_zero, List.set_cons_succ, i64_w, i32_w]
                                                 rfl
                                               refine pure_ (i := 2) (N := some 139) (v := ?_) (a' := ?_) #[true, true, true, false, false, false, false, false, false, false, false, false, false, false] rfl rfl (any_of HT_.out (by kernel_rfl)) (fun _ _ _ h => h) (Or.inl ⟨by rfl, ?_⟩) ?_ ?_
                                               rotate_left
                                               · intro w'
                                                 go_simp
                                                 with_reducible rfl
                                               rotate_left
                                               · simp only [Act.put, List.setIfInBounds_toArray, List.set_cons_zero, List.set_cons_succ, i64_w, i32_w]
                                                 rfl
                                               refine pure_ (i := 4) (N := some 141) (v := ?_) (a' := ?_) #[true, true, true, false, true, false, false, false, false, false, false, false, false, false] rfl rfl (any_of HT_.out (by kernel_rfl)) (fun _ _ _ h => h) (Or.inl ⟨by rfl, ?_⟩) ?_ ?_
                                               rotate_left
                                               · intro w'
                                                 go_simp
                                                 with_reducible rfl
                                               rotate_left
                                               · simp only [Act.put, List.setIfInBounds_toArray, List.set_cons_zero, List.set_cons_succ, i64_w, i32_w]
                                                 rfl
                                               refine pure_ (i := 5) (N := some 142) (v := ?_) (a' := ?_) #[true, true, true, false, true, true, false, false, false, false, false, false, false, false] rfl rfl (any_of HT_.out (by kernel_rfl)) (fun _ _ _ h => h) (Or.inl ⟨by rfl, ?_⟩) ?_ ?_
                                               rotate_left
                                               · intro w'
                                                 go_simp
                                                 with_reducible rfl
                                               rotate_left
                                               · simp only [Act.put, List.setIfInBounds_toArray, List.set_cons_zero, List.set_cons_succ, i64_w, i32_w]
                                                 rfl
                                               refine pure_ (i := 6) (N := some 143) (v := ?_) (a' := ?_) #[true, true, true, false, true, true, true, false, false, false, false, false, false, false] rfl rfl (any_of HT_.out (by kernel_rfl)) (fun _ _ _ h => h) (Or.inl ⟨by rfl, ?_⟩) ?_ ?_
                                               rotate_left
                                               · intro w'
                                                 go_simp
                                                 with_reducible rfl
                                               rotate_left
                                               · simp only [Act.put, List.setIfInBounds_toArray, List.set_cons_zero, List.set_cons_succ, i64_w, i32_w]
                                                 rfl
                                               refine pure_ (i := 8) (N := some 145) (v := ?_) (a' := ?_) #[true, true, true, false, true, true, true, false, true, false, false, false, false, false] rfl rfl (any_of HT_.out (by kernel_rfl)) (fun _ _ _ h => h) (Or.inl ⟨by rfl, ?_⟩) ?_ ?_
                                               rotate_left
                                               · intro w'
                                                 go_simp
                                                 with_reducible rfl
                                               rotate_left
                                               · simp only [Act.put, List.setIfInBounds_toArray, List.set_cons_zero, List.set_cons_succ, i64_w, i32_w]
                                                 rfl
                                               refine pure_ (i := 9) (N := some 146) (v := ?_) (a' := ?_) #[true, true, true, false, true, true, true, false, true, true, false, false, false, false] rfl rfl (any_of HT_.out (by kernel_rfl)) (fun _ _ _ h => h) (Or.inl ⟨by rfl, ?_⟩) ?_ ?_
                                               rotate_left
                                               · intro w'
                                                 go_simp
                                                 with_reducible rfl
                                               rotate_left
                                               · simp only [Act.put, List.setIfInBounds_toArray, List.set_cons_zero, List.set_cons_succ, i64_w, i32_w]
                                                 rfl
                                               refine pure_ (i := 10) (N := some 147) (v := ?_) (a' := ?_) #[true, true, true, false, true, true, true, false, true, true, true, false, false, false] rfl rfl (any_of HT_.out (by kernel_rfl)) (fun _ _ _ h => h) (Or.inl ⟨by rfl, ?_⟩) ?_ ?_
                                               rotate_left
                                               · intro w'
                                                 go_simp
                                                 with_reducible rfl
                                               rotate_left
                                               · simp only [Act.put, List.setIfInBounds_toArray, List.set_cons_zero, List.set_cons_succ, i64_w, i32_w]
                                                 rfl
                                               refine take_ (i := 3) (N := some 140) (v := ?_) (a' := ?_) #[true, true, true, true, true, true, true, false, true, true, true, false, false, false] rfl rfl (take_ofW HT_.out HW_.out (by kernel_rfl)) (fun _ _ _ h => h) (Or.inl ⟨by rfl, ?_⟩) hHeld ?_ ?_
                                               rotate_left
                                               · rintro w' ⟨s0, s1, s2⟩
                                                 go_simp
                                                 with_reducible rfl
                                               rotate_left
                                               · simp only [Act.put, List.setIfInBounds_toArray, List.set_cons_zero, List.set_cons_succ, i64_w, i32_w]
                                                 rfl
                                               refine take_ (i := 7) (N := some 144) (v := ?_) (a' := ?_) #[true, true, true, true, true, true, true, true, true, true, true, false, false, false] rfl rfl (take_ofW HT_.out HW_.out (by kernel_rfl)) (fun _ _ _ h => h) (Or.inl ⟨by rfl, ?_⟩) hHeld ?_ ?_
                                               rotate_left
                                               · rintro w' ⟨s0, s1, s2⟩
                                                 go_simp
                                                 with_reducible rfl
                                               rotate_left
                                               · simp only [Act.put, List.setIfInBounds_toArray, List.set_cons_zero, List.set_cons_succ, i64_w, i32_w]
                                                 rfl
                                               refine take_ (i := 11) (N := some 148) (v := ?_) (a' := ?_) #[true, true, true, true, true, true, true, true, true, true, true, true, false, false] rfl rfl (take_ofW HT_.out HW_.out (by kernel_rfl)) (fun _ _ _ h => h) (Or.inl ⟨by rfl, ?_⟩) hHeld ?_ ?_
                                               rotate_left
                                               · rintro w' ⟨s0, s1, s2⟩
                                                 go_simp
                                                 with_reducible rfl
                                               rotate_left
                                               · simp only [Act.put, List.setIfInBounds_toArray, List.set_cons_zero, List.set_cons_succ, i64_w, i32_w]
                                                 rfl
                                               refine one_ (i := 12) (N := some 149) #[true, true, true, true, true, true, true, true, true, true, true, true, true, false] rfl rfl (one_of HT_.out (by kernel_rfl)) (by decide) (fun K hK => ?_)
                                               refine goes_ Tryz.func9 (by kernel_rfl) rfl #[.int .i64 (rd y383 x24_4), .int .i64 (rd y383 x25_5), .int .i64 (rd y383 x26_6)] (by rfl) rfl rfl (by (try simp only [List.map_toArray, List.map_cons, List.map_nil]); first | done | rfl | (simp only [List.length_drop, List.length_take]; rfl)) ?_
                                               with_reducible refine (calamuslaw01_FixedQuotients.calls k6 (rd y383 x24_4) (rd y383 x25_5) (rd y383 x26_6) false _ A61.out (HWF.out.below (by repeat (first | (with_reducible first | exact HB.out | apply below_alloc | apply pw_below_drewN | apply below_drew1) | exact HB.out)))).mono ?_
                                               rintro e w66 ⟨rfl, hb⟩
                                               have HS0_ := (hb.cell (World.block_lt_of_cell? _ _ (hHeld.1))).trans (hHeld.1)
                                               have HS1_ := (hb.cell (World.block_lt_of_cell? _ _ (hHeld.2.1))).trans (hHeld.2.1)
                                               have HS2_ := (hb.cell (World.block_lt_of_cell? _ _ (hHeld.2.2))).trans (hHeld.2.2)
                                               refine ⟨_, rfl, ?_⟩
                                               have n0_ := Aside0.mk (Kd.R_below (by (with_reducible repeat (first | apply Kd.R_alloc | apply Kd.R_drewN | apply Kd.R_drew)); exact HO_23.out) hb)
                                               have n1_ := Aside0.mk (below_step (by repeat (first | (with_reducible first | exact HB.out | apply below_alloc | apply pw_below_drewN | apply below_drew1) | exact HB.out)) hb)
                                               clear HO_23
                                               clear HB
                                               have HO_23 := n0_
                                               have HB := n1_
                                               clear n0_ n1_
                                               (try clear hb)
                                               (try clear hb2)
                                               (try clear hk)
                                               (try clear hi)
                                               refine hK.out _ _ ⟨HS0_, HS1_, HS2_⟩ (fun hHeld => ?_)
                                               clear hK K
                                               refine norm_ (a' := ?_) ?_ ?_
                                               rotate_left
                                               · show Act.put _ (some 149) _ = _
                                                 simp only [Act.put, List.setIfInBounds_toArray, List.set_cons_zero, List.set_cons_succ, i64_w, i32_w]
                                                 rfl
                                               refine pure_ (i := 13) (N := some 150) (v := ?_) (a' := ?_) #[true, true, true, true, true, true, true, true, true, true, true, true, true, true] rfl rfl (any_of HT_.out (by kernel_rfl)) (fun _ _ _ h => h) (Or.inl ⟨by rfl, ?_⟩) ?_ ?_
                                               rotate_left
                                               · intro w'
                                                 go_simp
                                                 with_reducible rfl
                                               rotate_left
                                               · simp only [Act.put, List.setIfInBounds_toArray, List.set_cons_zero, List.set_cons_succ, i64_w, i32_w]
                                                 rfl
                                               refine done_ (done_of HT_.out (by kernel_rfl)) ?_
                                               try go_wp2
                                               go_ret
                                               exact ⟨by first | rfl | (simp [errW_none, errW_some] <;> rfl) | (simp [*, errW_none, errW_some] <;> rfl), by repeat (first | (with_reducible first | exact HB.out | apply below_alloc | apply pw_below_drewN | apply below_drew1) | exact HB.out)⟩
                                          · rw [if_neg c60] at H
                                            exact absurd H (by simp)
                                        · rw [if_neg c59] at H
                                          exact absurd H (by simp)
                                      · rw [if_neg c58] at H
                                        exact absurd H (by simp)
                                    · rw [if_neg c57] at H
                                      exact absurd H (by simp)
                                  · rw [if_neg c56] at H
                                    exact absurd H (by simp)
                                · rw [if_neg c55] at H
                                  have c55b0 : decide (x26_6 < (y383.length : Int)) = false := decide_eq_false c55
                                  clear c55
                                  by_cases c67 : 0 ≤ x24_4
                                  · rw [if_pos c67] at H
                                    have c67b0 : decide (0 ≤ x24_4) = true := decide_eq_true c67
                                    clear c67
                                    by_cases c68 : x24_4 < (y383.length : Int)
                                    · rw [if_pos c68] at H
                                      have c68b0 : decide (x24_4 < (y383.length : Int)) = true := decide_eq_true c68
                                      clear c68
                                      by_cases c69 : 0 ≤ x25_5
                                      · rw [if_pos c69] at H
                                        have c69b0 : decide (0 ≤ x25_5) = true := decide_eq_true c69
                                        clear c69
                                        by_cases c70 : x25_5 < (y383.length : Int)
                                        · rw [if_pos c70] at H
                                          have c70b0 : decide (x25_5 < (y383.length : Int)) = true := decide_eq_true c70
                                          clear c70
                                          replace H := Option.bind_eq_some_iff.mp H
                                          obtain ⟨t397, A710, H⟩ := H
                                          replace H : (if t397 = true then ((calamuslaw01_FixedScales.f k6 (rd y383 x24_4) (rd y383 x25_5) (IntKind.u16.wrap (rd y383 x24_4))).bind fun t401 => (if t401 = true then (calamuslaw01_FixedKnown.l2 k6 x13_6 x14_20 t377 t378 t379 t380 t381 t382 y383 x24_4 (wrap64 (x25_5 + 1))) else (some false))) else (some false)) = some r := H
                                          have A71 := Aside0.mk A710
                                          clear A710
                                          by_cases c72 : t397 = true
                                          · subst c72
                                            have H1 : ((calamuslaw01_FixedScales.f k6 (rd y383 x24_4) (rd y383 x25_5) (IntKind.u16.wrap (rd y383 x24_4))).bind fun t401 => (if t401 = true then (calamuslaw01_FixedKnown.l2 k6 x13_6 x14_20 t377 t378 t379 t380 t381 t382 y383 x24_4 (wrap64 (x25_5 + 1))) else (some false))) = some r := by rw [if_pos rfl] at H; exact H
                                            clear H
                                            have H := H1
                                            clear H1
                                            replace H := Option.bind_eq_some_iff.mp H
                                            obtain ⟨t401, A730, H⟩ := H
                                            replace H : (if t401 = true then (calamuslaw01_FixedKnown.l2 k6 x13_6 x14_20 t377 t378 t379 t380 t381 t382 y383 x24_4 (wrap64 (x25_5 + 1))) else (some false)) = some r := H
                                            have A73 := Aside0.mk A730
                                            clear A730
                                            by_cases c74 : t401 = true
                                            · as_aux_lemma =>
                                               subst c74
                                               have H1 : (calamuslaw01_FixedKnown.l2 k6 x13_6 x14_20 t377 t378 t379 t380 t381 t382 y383 x24_4 (wrap64 (x25_5 + 1))) = some r := by rw [if_pos rfl] at H; exact H
                                               clear H
                                               have H := H1
                                               clear H1
                                               have H' := Aside0.mk H
                                               clear H
                                               try go_wp2
                                               have n0_ := Aside0.mk (Kd.R_drew HO_23.out)
                                               have n1_ := Aside0.mk (below_drew1 HB.out)
                                               clear HO_23
                                               clear HB
                                               have HO_23 := n0_
                                               have HB := n1_
                                               clear n0_ n1_
                                               have p395 : 0 ≤ (x24_4 : Int) := of_decide_eq_true (by first | (with_reducible assumption) | assumption)
                                               have q395 : x24_4 < (y383.length : Int) := of_decide_eq_true (by first | (with_reducible assumption) | assumption)
                                               obtain ⟨ad395, e395, hx395_0⟩ := Kd.at_int (Kd.R_reads' HO_23.out).2.2 x24_4 p395 q395
                                               cases e395
                                               replace p395 := eq_true p395
                                               replace q395 := eq_true q395
                                               have p396 : 0 ≤ (x25_5 : Int) := of_decide_eq_true (by first | (with_reducible assumption) | assumption)
                                               have q396 : x25_5 < (y383.length : Int) := of_decide_eq_true (by first | (with_reducible assumption) | assumption)
                                               obtain ⟨ad396, e396, hx396_0⟩ := Kd.at_int (Kd.R_reads' HO_23.out).2.2 x25_5 p396 q396
                                               obtain rfl : ad395 = ad396 := (by injection e396)
                                               replace p396 := eq_true p396
                                               replace q396 := eq_true q396
                                               have p398 : 0 ≤ (x24_4 : Int) := of_decide_eq_true (by first | (with_reducible assumption) | assumption)
                                               have q398 : x24_4 < (y383.length : Int) := of_decide_eq_true (by first | (with_reducible assumption) | assumption)
                                               obtain ⟨ad398, e398, hx398_0⟩ := Kd.at_int (Kd.R_reads' HO_23.out).2.2 x24_4 p398 q398
                                               obtain rfl : ad395 = ad398 := (by injection e398)
                                               replace p398 := eq_true p398
                                               replace q398 := eq_true q398
                                               have p399 : 0 ≤ (x25_5 : Int) := of_decide_eq_true (by first | (with_reducible assumption) | assumption)
                                               have q399 : x25_5 < (y383.length : Int) := of_decide_eq_true (by first | (with_reducible assumption) | assumption)
                                               obtain ⟨ad399, e399, hx399_0⟩ := Kd.at_int (Kd.R_reads' HO_23.out).2.2 x25_5 p399 q399
                                               obtain rfl : ad395 = ad399 := (by injection e399)
                                               replace p399 := eq_true p399
                                               replace q399 := eq_true q399
                                               have p400 : 0 ≤ (x24_4 : Int) := of_decide_eq_true (by first | (with_reducible assumption) | assumption)
                                               have q400 : x24_4 < (y383.length : Int) := of_decide_eq_true (by first | (with_reducible assumption) | assumption)
                                               obtain ⟨ad400, e400, hx400_0⟩ := Kd.at_int (Kd.R_reads' HO_23.out).2.2 x24_4 p400 q400
                                               obtain rfl : ad395 = ad400 := (by injection e400)
                                               replace p400 := eq_true p400
                                               replace q400 := eq_true q400
                                               refine start_ (n := 27) (S := fun w' => w'.cell? (ad395.add (x24_4).toNat) = some (.int .i64 (rd y383 x24_4)) ∧ w'.cell? (ad395.add (x25_5).toNat) = some (.int .i64 (rd y383 x25_5)) ∧ w'.cell? (ad395.add (x24_4).toNat) = some (.int .i64 (rd y383 x24_4)) ∧ w'.cell? (ad395.add (x25_5).toNat) = some (.int .i64 (rd y383 x25_5)) ∧ w'.cell? (ad395.add (x24_4).toNat) = some (.int .i64 (rd y383 x24_4))) (ds := []) #[false, false, false, false, false, false, false, false, false, false, false, false, false, false, false, false, false, false, false, false, false, false, false, false, false, false, false] (by kernel_rfl) rfl rfl ⟨hx395_0, hx396_0, hx398_0, hx399_0, hx400_0⟩ (fun hHeld => ?_); refine with_tabW calamuslaw01_FixedKnown.tab30 calamuslaw01_FixedKnown.bits30 (fun HT_ HW_ => ?_)
                                               generalize wr.drew = w75 at HO_23 HB hx395_0 hx396_0 hx398_0 hx399_0 hx400_0 hHeld ⊢
                                               refine pure_ (i := 0) (N := some 151) (v := ?_) (a' := ?_) #[true, false, false, false, false, false, false, false, false, false, false, false, false, false, false, false, false, false, false, false, false, false, false, false, false, false, false] rfl rfl (any_of HT_.out (by kernel_rfl)) (fun _ _ _ h => h) (Or.inl ⟨by rfl, ?_⟩) ?_ ?_
                                               rotate_left
                                               · intro w'
                                                 go_simp
                                                 with_reducible rfl
                                               rotate_left
                                               · simp only [Act.put, List.setIfInBounds_toArray, List.set_cons_zero, List.set_cons_succ, i64_w, i32_w]
                                                 rfl
                                               refine pure_ (i := 1) (N := some 152) (v := ?_) (a' := ?_) #[true, true, false, false, false, false, false, false, false, false, false, false, false, false, false, false, false, false, false, false, false, false, false, false, false, false, false] rfl rfl (any_of HT_.out (by kernel_rfl)) (fun _ _ _ h => h) (Or.inl ⟨by rfl, ?_⟩) ?_ ?_
                                               rotate_left
                                               · intro w'
                                                 go_simp
                                                 with_reducible rfl
                                               rotate_left
                                               · simp only [Act.put, List.setIfInBounds_toArray, List.set_cons_zero, List.set_cons_succ, i64_w, i32_w]
                                                 rfl
                                               refine pure_ (i := 2) (N := some 153) (v := ?_) (a' := ?_) #[true, true, true, false, false, false, false, false, false, false, false, false, false, false, false, false, false, false, false, false, false, false, false, false, false, false, false] rfl rfl (any_of HT_.out (by kernel_rfl)) (fun _ _ _ h => h) (Or.inl ⟨by rfl, ?_⟩) ?_ ?_
                                               rotate_left
                                               · intro w'
                                                 go_simp
                                                 with_reducible rfl
                                               rotate_left
                                               · simp only [Act.put, List.setIfInBounds_toArray, List.set_cons_zero, List.set_cons_succ, i64_w, i32_w]
                                                 rfl
                                               refine pure_ (i := 4) (N := some 155) (v := ?_) (a' := ?_) #[true, true, true, false, true, false, false, false, false, false, false, false, false, false, false, false, false, false, false, false, false, false, false, false, false, false, false] rfl rfl (any_of HT_.out (by kernel_rfl)) (fun _ _ _ h => h) (Or.inl ⟨by rfl, ?_⟩) ?_ ?_
                                               rotate_left
                                               · intro w'
                                                 go_simp
                                                 with_reducible rfl
                                               rotate_left
                                               · simp only [Act.put, List.setIfInBounds_toArray, List.set_cons_zero, List.set_cons_succ, i64_w, i32_w]
                                                 rfl
                                               refine pure_ (i := 5) (N := some 156) (v := ?_) (a' := ?_) #[true, true, true, false, true, true, false, false, false, false, false, false, false, false, false, false, false, false, false, false, false, false, false, false, false, false, false] rfl rfl (any_of HT_.out (by kernel_rfl)) (fun _ _ _ h => h) (Or.inl ⟨by rfl, ?_⟩) ?_ ?_
                                               rotate_left
                                               · intro w'
                                                 go_simp
                                                 with_reducible rfl
                                               rotate_left
                                               · simp only [Act.put, List.setIfInBounds_toArray, List.set_cons_zero, List.set_cons_succ, i64_w, i32_w]
                                                 rfl
                                               refine pure_ (i := 6) (N := some 157) (v := ?_) (a' := ?_) #[true, true, true, false, true, true, true, false, false, false, false, false, false, false, false, false, false, false, false, false, false, false, false, false, false, false, false] rfl rfl (any_of HT_.out (by kernel_rfl)) (fun _ _ _ h => h) (Or.inl ⟨by rfl, ?_⟩) ?_ ?_
                                               rotate_left
                                               · intro w'
                                                 go_simp
                                                 with_reducible rfl
                                               rotate_left
                                               · simp only [Act.put, List.setIfInBounds_toArray, List.set_cons_zero, List.set_cons_succ, i64_w, i32_w]
                                                 rfl
                                               refine take_ (i := 3) (N := some 154) (v := ?_) (a' := ?_) #[true, true, true, true, true, true, true, false, false, false, false, false, false, false, false, false, false, false, false, false, false, false, false, false, false, false, false] rfl rfl (take_ofW HT_.out HW_.out (by kernel_rfl)) (fun _ _ _ h => h) (Or.inl ⟨by rfl, ?_⟩) hHeld ?_ ?_
                                               rotate_left
                                               · rintro w' ⟨s0, s1, s2, s3, s4⟩
                                                 go_simp
                                                 with_reducible rfl
                                               rotate_left
                                               · simp only [Act.put, List.setIfInBounds_toArray, List.set_cons_zero, List.set_cons_succ, i64_w, i32_w]
                                                 rfl
                                               refine take_ (i := 7) (N := some 158) (v := ?_) (a' := ?_) #[true, true, true, true, true, true, true, true, false, false, false, false, false, false, false, false, false, false, false, false, false, false, false, false, false, false, false] rfl rfl (take_ofW HT_.out HW_.out (by kernel_rfl)) (fun _ _ _ h => h) (Or.inl ⟨by rfl, ?_⟩) hHeld ?_ ?_
                                               rotate_left
                                               · rintro w' ⟨s0, s1, s2, s3, s4⟩
                                                 go_simp
                                                 with_reducible rfl
                                               rotate_left
                                               · simp only [Act.put, List.setIfInBounds_toArray, List.set_cons_zero, List.set_cons_succ, i64_w, i32_w]
                                                 rfl
                                               refine one_ (i := 8) (N := some 159) #[true, true, true, true, true, true, true, true, true, false, false, false, false, false, false, false, false, false, false, false, false, false, false, false, false, false, false] rfl rfl (one_of HT_.out (by kernel_rfl)) (by decide) (fun K hK => ?_)
                                               refine goes_ Tryz.func10 (by kernel_rfl) rfl #[.int .i64 (rd y383 x24_4), .int .i64 (rd y383 x25_5)] (by rfl) rfl rfl (by (try simp only [List.map_toArray, List.map_cons, List.map_nil]); first | done | rfl | (simp only [List.length_drop, List.length_take]; rfl)) ?_
                                               with_reducible refine (calamuslaw01_FixedSums.calls k6 (rd y383 x24_4) (rd y383 x25_5) true _ A71.out (HWF.out.below (by repeat (first | (with_reducible first | exact HB.out | apply below_alloc | apply pw_below_drewN | apply below_drew1) | exact HB.out)))).mono ?_
                                               rintro e w76 ⟨rfl, hb⟩
                                               have HS0_ := (hb.cell (World.block_lt_of_cell? _ _ (hHeld.1))).trans (hHeld.1)
                                               have HS1_ := (hb.cell (World.block_lt_of_cell? _ _ (hHeld.2.1))).trans (hHeld.2.1)
                                               have HS2_ := (hb.cell (World.block_lt_of_cell? _ _ (hHeld.2.2.1))).trans (hHeld.2.2.1)
                                               have HS3_ := (hb.cell (World.block_lt_of_cell? _ _ (hHeld.2.2.2.1))).trans (hHeld.2.2.2.1)
                                               have HS4_ := (hb.cell (World.block_lt_of_cell? _ _ (hHeld.2.2.2.2))).trans (hHeld.2.2.2.2)
                                               refine ⟨_, rfl, ?_⟩
                                               have n0_ := Aside0.mk (Kd.R_below (by (with_reducible repeat (first | apply Kd.R_alloc | apply Kd.R_drewN | apply Kd.R_drew)); exact HO_23.out) hb)
                                               have n1_ := Aside0.mk (below_step (by repeat (first | (with_reducible first | exact HB.out | apply below_alloc | apply pw_below_drewN | apply below_drew1) | exact HB.out)) hb)
                                               clear HO_23
                                               clear HB
                                               have HO_23 := n0_
                                               have HB := n1_
                                               clear n0_ n1_
                                               (try clear hb)
                                               (try clear hb2)
                                               (try clear hk)
                                               (try clear hi)
                                               refine hK.out _ _ ⟨HS0_, HS1_, HS2_, HS3_, HS4_⟩ (fun hHeld => ?_)
                                               clear hK K
                                               refine norm_ (a' := ?_) ?_ ?_
                                               rotate_left
                                               · show Act.put _ (some 159) _ = _
                                                 simp only [Act.put, List.setIfInBounds_toArray, List.set_cons_zero, List.set_cons_succ, i64_w, i32_w]
                                                 rfl
                                               refine pure_ (i := 9) (N := some 160) (v := ?_) (a' := ?_) #[true, true, true, true, true, true, true, true, true, true, false, false, false, false, false, false, false, false, false, false, false, false, false, false, false, false, false] rfl rfl (any_of HT_.out (by kernel_rfl)) (fun _ _ _ h => h) (Or.inl ⟨by rfl, ?_⟩) ?_ ?_
                                               rotate_left
                                               · intro w'
                                                 go_simp
                                                 with_reducible rfl
                                               rotate_left
                                               · simp only [Act.put, List.setIfInBounds_toArray, List.set_cons_zero, List.set_cons_succ, i64_w, i32_w]
                                                 rfl
                                               refine pure_ (i := 10) (N := some 161) (v := ?_) (a' := ?_) #[true, true, true, true, true, true, true, true, true, true, true, false, false, false, false, false, false, false, false, false, false, false, false, false, false, false, false] rfl rfl (any_of HT_.out (by kernel_rfl)) (fun _ _ _ h => h) (Or.inl ⟨by rfl, ?_⟩) ?_ ?_
                                               rotate_left
                                               · intro w'
                                                 go_simp
                                                 with_reducible rfl
                                               rotate_left
                                               · simp only [Act.put, List.setIfInBounds_toArray, List.set_cons_zero, List.set_cons_succ, i64_w, i32_w]
                                                 rfl
                                               refine pure_ (i := 11) (N := some 162) (v := ?_) (a' := ?_) #[true, true, true, true, true, true, true, true, true, true, true, true, false, false, false, false, false, false, false, false, false, false, false, false, false, false, false] rfl rfl (any_of HT_.out (by kernel_rfl)) (fun _ _ _ h => h) (Or.inl ⟨by rfl, ?_⟩) ?_ ?_
                                               rotate_left
                                               · intro w'
                                                 go_simp
                                                 with_reducible rfl
                                               rotate_left
                                               · simp only [Act.put, List.setIfInBounds_toArray, List.set_cons_zero, List.set_cons_succ, i64_w, i32_w]
                                                 rfl
                                               refine pure_ (i := 12) (N := some 163) (v := ?_) (a' := ?_) #[true, true, true, true, true, true, true, true, true, true, true, true, true, false, false, false, false, false, false, false, false, false, false, false, false, false, false] rfl rfl (any_of HT_.out (by kernel_rfl)) (fun _ _ _ h => h) (Or.inl ⟨by rfl, ?_⟩) ?_ ?_
                                               rotate_left
                                               · intro w'
                                                 go_simp
                                                 with_reducible rfl
                                               rotate_left
                                               · simp only [Act.put, List.setIfInBounds_toArray, List.set_cons_zero, List.set_cons_succ, i64_w, i32_w]
                                                 rfl
                                               refine pure_ (i := 13) (N := some 164) (v := ?_) (a' := ?_) #[true, true, true, true, true, true, true, true, true, true, true, true, true, true, false, false, false, false, false, false, false, false, false, false, false, false, false] rfl rfl (any_of HT_.out (by kernel_rfl)) (fun _ _ _ h => h) (Or.inl ⟨by rfl, ?_⟩) ?_ ?_
                                               rotate_left
                                               · intro w'
                                                 go_simp
                                                 with_reducible rfl
                                               rotate_left
                                               · simp only [Act.put, List.setIfInBounds_toArray, List.set_cons_zero, List.set_cons_succ, i64_w, i32_w]
                                                 rfl
                                               refine pure_ (i := 15) (N := some 166) (v := ?_) (a' := ?_) #[true, true, true, true, true, true, true, true, true, true, true, true, true, true, false, true, false, false, false, false, false, false, false, false, false, false, false] rfl rfl (any_of HT_.out (by kernel_rfl)) (fun _ _ _ h => h) (Or.inl ⟨by rfl, ?_⟩) ?_ ?_
                                               rotate_left
                                               · intro w'
                                                 go_simp
                                                 with_reducible rfl
                                               rotate_left
                                               · simp only [Act.put, List.setIfInBounds_toArray, List.set_cons_zero, List.set_cons_succ, i64_w, i32_w]
                                                 rfl
                                               refine pure_ (i := 16) (N := some 167) (v := ?_) (a' := ?_) #[true, true, true, true, true, true, true, true, true, true, true, true, true, true, false, true, true, false, false, false, false, false, false, false, false, false, false] rfl rfl (any_of HT_.out (by kernel_rfl)) (fun _ _ _ h => h) (Or.inl ⟨by rfl, ?_⟩) ?_ ?_
                                               rotate_left
                                               · intro w'
                                                 go_simp
                                                 with_reducible rfl
                                               rotate_left
                                               · simp only [Act.put, List.setIfInBounds_toArray, List.set_cons_zero, List.set_cons_succ, i64_w, i32_w]
                                                 rfl
                                               refine pure_ (i := 17) (N := some 168) (v := ?_) (a' := ?_) #[true, true, true, true, true, true, true, true, true, true, true, true, true, true, false, true, true, true, false, false, false, false, false, false, false, false, false] rfl rfl (any_of HT_.out (by kernel_rfl)) (fun _ _ _ h => h) (Or.inl ⟨by rfl, ?_⟩) ?_ ?_
                                               rotate_left
                                               · intro w'
                                                 go_simp
                                                 with_reducible rfl
                                               rotate_left
                                               · simp only [Act.put, List.setIfInBounds_toArray, List.set_cons_zero, List.set_cons_succ, i64_w, i32_w]
                                                 rfl
                                               refine pure_ (i := 19) (N := some 170) (v := ?_) (a' := ?_) #[true, true, true, true, true, true, true, true, true, true, true, true, true, true, false, true, true, true, false, true, false, false, false, false, false, false, false] rfl rfl (any_of HT_.out (by kernel_rfl)) (fun _ _ _ h => h) (Or.inl ⟨by rfl, ?_⟩) ?_ ?_
                                               rotate_left
                                               · intro w'
                                                 go_simp
                                                 with_reducible rfl
                                               rotate_left
                                               · simp only [Act.put, List.setIfInBounds_toArray, List.set_cons_zero, List.set_cons_succ, i64_w, i32_w]
                                                 rfl
                                               refine pure_ (i := 20) (N := some 171) (v := ?_) (a' := ?_) #[true, true, true, true, true, true, true, true, true, true, true, true, true, true, false, true, true, true, false, true, true, false, false, false, false, false, false] rfl rfl (any_of HT_.out (by kernel_rfl)) (fun _ _ _ h => h) (Or.inl ⟨by rfl, ?_⟩) ?_ ?_
                                               rotate_left
                                               · intro w'
                                                 go_simp
                                                 with_reducible rfl
                                               rotate_left
                                               · simp only [Act.put, List.setIfInBounds_toArray, List.set_cons_zero, List.set_cons_succ, i64_w, i32_w]
                                                 rfl
                                               refine pure_ (i := 21) (N := some 172) (v := ?_) (a' := ?_) #[true, true, true, true, true, true, true, true, true, true, true, true, true, true, false, true, true, true, false, true, true, true, false, false, false, false, false] rfl rfl (any_of HT_.out (by kernel_rfl)) (fun _ _ _ h => h) (Or.inl ⟨by rfl, ?_⟩) ?_ ?_
                                               rotate_left
                                               · intro w'
                                                 go_simp
                                                 with_reducible rfl
                                               rotate_left
                                               · simp only [Act.put, List.setIfInBounds_toArray, List.set_cons_zero, List.set_cons_succ, i64_w, i32_w]
                                                 rfl
                                               refine take_ (i := 14) (N := some 165) (v := ?_) (a' := ?_) #[true, true, true, true, true, true, true, true, true, true, true, true, true, true, true, true, true, true, false, true, true, true, false, false, false, false, false] rfl rfl (take_ofW HT_.out HW_.out (by kernel_rfl)) (fun _ _ _ h => h) (Or.inl ⟨by rfl, ?_⟩) hHeld ?_ ?_
                                               rotate_left
                                               · rintro w' ⟨s0, s1, s2, s3, s4⟩
                                                 go_simp
                                                 with_reducible rfl
                                               rotate_left
                                               · simp only [Act.put, List.setIfInBounds_toArray, List.set_cons_zero, List.set_cons_succ, i64_w, i32_w]
                                                 rfl
                                               refine take_ (i := 18) (N := some 169) (v := ?_) (a' := ?_) #[true, true, true, true, true, true, true, true, true, true, true, true, true, true, true, true, true, true, true, true, true, true, false, false, false, false, false] rfl rfl (take_ofW HT_.out HW_.out (by kernel_rfl)) (fun _ _ _ h => h) (Or.inl ⟨by rfl, ?_⟩) hHeld ?_ ?_
                                               rotate_left
                                               · rintro w' ⟨s0, s1, s2, s3, s4⟩
                                                 go_simp
                                                 with_reducible rfl
                                               rotate_left
                                               · simp only [Act.put, List.setIfInBounds_toArray, List.set_cons_zero, List.set_cons_succ, i64_w, i32_w]
                                                 rfl
                                               refine take_ (i := 22) (N := some 173) (v := ?_) (a' := ?_) #[true, true, true, true, true, true, true, true, true, true, true, true, true, true, true, true, true, true, true, true, true, true, true, false, false, false, false] rfl rfl (take_ofW HT_.out HW_.out (by kernel_rfl)) (fun _ _ _ h => h) (Or.inl ⟨by rfl, ?_⟩) hHeld ?_ ?_
                                               rotate_left
                                               · rintro w' ⟨s0, s1, s2, s3, s4⟩
                                                 go_simp
                                                 with_reducible rfl
                                               rotate_left
                                               · simp only [Act.put, List.setIfInBounds_toArray, List.set_cons_zero, List.set_cons_succ, i64_w, i32_w]
                                                 rfl
                                               refine pure_ (i := 23) (N := some 174) (v := ?_) (a' := ?_) #[true, true, true, true, true, true, true, true, true, true, true, true, true, true, true, true, true, true, true, true, true, true, true, true, false, false, false] rfl rfl (any_of HT_.out (by kernel_rfl)) (fun _ _ _ h => h) (Or.inl ⟨by rfl, ?_⟩) ?_ ?_
                                               rotate_left
                                               · intro w'
                                                 go_simp
                                                 with_reducible rfl
                                               rotate_left
                                               · simp only [Act.put, List.setIfInBounds_toArray, List.set_cons_zero, List.set_cons_succ, i64_w, i32_w]
                                                 rfl
                                               refine one_ (i := 24) (N := some 175) #[true, true, true, true, true, true, true, true, true, true, true, true, true, true, true, true, true, true, true, true, true, true, true, true, true, false, false] rfl rfl (one_of HT_.out (by kernel_rfl)) (by decide) (fun K hK => ?_)
                                               refine goes_ Tryz.func11 (by kernel_rfl) rfl #[.int .i64 (rd y383 x24_4), .int .i64 (rd y383 x25_5), .int .u16 (IntKind.u16.wrap (rd y383 x24_4))] (by rfl) rfl rfl (by (try simp only [List.map_toArray, List.map_cons, List.map_nil]); first | done | rfl | (simp only [List.length_drop, List.length_take]; rfl)) ?_
                                               with_reducible refine (calamuslaw01_FixedScales.calls k6 (rd y383 x24_4) (rd y383 x25_5) (IntKind.u16.wrap (rd y383 x24_4)) true _ A73.out (HWF.out.below (by repeat (first | (with_reducible first | exact HB.out | apply below_alloc | apply pw_below_drewN | apply below_drew1) | exact HB.out)))).mono ?_
                                               rintro e w77 ⟨rfl, hb⟩
                                               have HS0_ := (hb.cell (World.block_lt_of_cell? _ _ (hHeld.1))).trans (hHeld.1)
                                               have HS1_ := (hb.cell (World.block_lt_of_cell? _ _ (hHeld.2.1))).trans (hHeld.2.1)
                                               have HS2_ := (hb.cell (World.block_lt_of_cell? _ _ (hHeld.2.2.1))).trans (hHeld.2.2.1)
                                               have HS3_ := (hb.cell (World.block_lt_of_cell? _ _ (hHeld.2.2.2.1))).trans (hHeld.2.2.2.1)
                                               have HS4_ := (hb.cell (World.block_lt_of_cell? _ _ (hHeld.2.2.2.2))).trans (hHeld.2.2.2.2)
                                               refine ⟨_, rfl, ?_⟩
                                               have n0_ := Aside0.mk (Kd.R_below (by (with_reducible repeat (first | apply Kd.R_alloc | apply Kd.R_drewN | apply Kd.R_drew)); exact HO_23.out) hb)
                                               have n1_ := Aside0.mk (below_step (by repeat (first | (with_reducible first | exact HB.out | apply below_alloc | apply pw_below_drewN | apply below_drew1) | exact HB.out)) hb)
                                               clear HO_23
                                               clear HB
                                               have HO_23 := n0_
                                               have HB := n1_
                                               clear n0_ n1_
                                               (try clear hb)
                                               (try clear hb2)
                                               (try clear hk)
                                               (try clear hi)
                                               refine hK.out _ _ ⟨HS0_, HS1_, HS2_, HS3_, HS4_⟩ (fun hHeld => ?_)
                                               clear hK K
                                               refine norm_ (a' := ?_) ?_ ?_
                                               rotate_left
                                               · show Act.put _ (some 175) _ = _
                                                 simp only [Act.put, List.setIfInBounds_toArray, List.set_cons_zero, List.set_cons_succ, i64_w, i32_w]
                                                 rfl
                                               refine pure_ (i := 25) (N := some 176) (v := ?_) (a' := ?_) #[true, true, true, true, true, true, true, true, true, true, true, true, true, true, true, true, true, true, true, true, true, true, true, true, true, true, false] rfl rfl (any_of HT_.out (by kernel_rfl)) (fun _ _ _ h => h) (Or.inl ⟨by rfl, ?_⟩) ?_ ?_
                                               rotate_left
                                               · intro w'
                                                 go_simp
                                                 with_reducible rfl
                                               rotate_left
                                               · simp only [Act.put, List.setIfInBounds_toArray, List.set_cons_zero, List.set_cons_succ, i64_w, i32_w]
                                                 rfl
                                               refine pure_ (i := 26) (N := some 177) (v := ?_) (a' := ?_) #[true, true, true, true, true, true, true, true, true, true, true, true, true, true, true, true, true, true, true, true, true, true, true, true, true, true, true] rfl rfl (any_of HT_.out (by kernel_rfl)) (fun _ _ _ h => h) (Or.inl ⟨by rfl, ?_⟩) ?_ ?_
                                               rotate_left
                                               · intro w'
                                                 go_simp
                                                 with_reducible rfl
                                               rotate_left
                                               · simp only [Act.put, List.setIfInBounds_toArray, List.set_cons_zero, List.set_cons_succ, i64_w, i32_w]
                                                 rfl
                                               refine done_ (done_of HT_.out (by kernel_rfl)) ?_
                                               try go_wp2
                                               go_roundg k6
                                               case measure => have := HJ6.out; have := HJ20.out; have := HK3.out; have := HK4.out; have := HK5.out; have := HK6.out; omega
                                               case rel => exact ⟨(wrap64 (x25_5 + 1)), (by first | rfl | (simp; done) | (simp [*]; done)), H', ⟨by have := HJ6.out; have := HJ20.out; have := HK3.out; have := HK4.out; have := HK5.out; have := HK6.out; omega⟩, ⟨by (with_reducible repeat (first | apply Kd.R_alloc | apply Kd.R_drewN | apply Kd.R_drew)); exact HO_23.out⟩, ⟨by repeat (first | (with_reducible first | exact HB.out | apply below_alloc | apply pw_below_drewN | apply below_drew1) | exact HB.out)⟩⟩
                                            · as_aux_lemma =>
                                               replace c74 := Bool.eq_false_iff.mpr c74
                                               subst c74
                                               have H1 : (some false) = some r := by rw [if_neg (show ¬ (false = true) by decide)] at H; exact H
                                               clear H
                                               have H := H1
                                               clear H1
                                               obtain rfl := Option.some.inj H
                                               try go_wp2
                                               have n0_ := Aside0.mk (Kd.R_drew HO_23.out)
                                               have n1_ := Aside0.mk (below_drew1 HB.out)
                                               clear HO_23
                                               clear HB
                                               have HO_23 := n0_
                                               have HB := n1_
                                               clear n0_ n1_
                                               have p395 : 0 ≤ (x24_4 : Int) := of_decide_eq_true (by first | (with_reducible assumption) | assumption)
                                               have q395 : x24_4 < (y383.length : Int) := of_decide_eq_true (by first | (with_reducible assumption) | assumption)
                                               obtain ⟨ad395, e395, hx395_0⟩ := Kd.at_int (Kd.R_reads' HO_23.out).2.2 x24_4 p395 q395
                                               cases e395
                                               replace p395 := eq_true p395
                                               replace q395 := eq_true q395
                                               have p396 : 0 ≤ (x25_5 : Int) := of_decide_eq_true (by first | (with_reducible assumption) | assumption)
                                               have q396 : x25_5 < (y383.length : Int) := of_decide_eq_true (by first | (with_reducible assumption) | assumption)
                                               obtain ⟨ad396, e396, hx396_0⟩ := Kd.at_int (Kd.R_reads' HO_23.out).2.2 x25_5 p396 q396
                                               obtain rfl : ad395 = ad396 := (by injection e396)
                                               replace p396 := eq_true p396
                                               replace q396 := eq_true q396
                                               have p398 : 0 ≤ (x24_4 : Int) := of_decide_eq_true (by first | (with_reducible assumption) | assumption)
                                               have q398 : x24_4 < (y383.length : Int) := of_decide_eq_true (by first | (with_reducible assumption) | assumption)
                                               obtain ⟨ad398, e398, hx398_0⟩ := Kd.at_int (Kd.R_reads' HO_23.out).2.2 x24_4 p398 q398
                                               obtain rfl : ad395 = ad398 := (by injection e398)
                                               replace p398 := eq_true p398
                                               replace q398 := eq_true q398
                                               have p399 : 0 ≤ (x25_5 : Int) := of_decide_eq_true (by first | (with_reducible assumption) | assumption)
                                               have q399 : x25_5 < (y383.length : Int) := of_decide_eq_true (by first | (with_reducible assumption) | assumption)
                                               obtain ⟨ad399, e399, hx399_0⟩ := Kd.at_int (Kd.R_reads' HO_23.out).2.2 x25_5 p399 q399
                                               obtain rfl : ad395 = ad399 := (by injection e399)
                                               replace p399 := eq_true p399
                                               replace q399 := eq_true q399
                                               have p400 : 0 ≤ (x24_4 : Int) := of_decide_eq_true (by first | (with_reducible assumption) | assumption)
                                               have q400 : x24_4 < (y383.length : Int) := of_decide_eq_true (by first | (with_reducible assumption) | assumption)
                                               obtain ⟨ad400, e400, hx400_0⟩ := Kd.at_int (Kd.R_reads' HO_23.out).2.2 x24_4 p400 q400
                                               obtain rfl : ad395 = ad400 := (by injection e400)
                                               replace p400 := eq_true p400
                                               replace q400 := eq_true q400
                                               refine start_ (n := 27) (S := fun w' => w'.cell? (ad395.add (x24_4).toNat) = some (.int .i64 (rd y383 x24_4)) ∧ w'.cell? (ad395.add (x25_5).toNat) = some (.int .i64 (rd y383 x25_5)) ∧ w'.cell? (ad395.add (x24_4).toNat) = some (.int .i64 (rd y383 x24_4)) ∧ w'.cell? (ad395.add (x25_5).toNat) = some (.int .i64 (rd y383 x25_5)) ∧ w'.cell? (ad395.add (x24_4).toNat) = some (.int .i64 (rd y383 x24_4))) (ds := []) #[false, false, false, false, false, false, false, false, false, false, false, false, false, false, false, false, false, false, false, false, false, false, false, false, false, false, false] (by kernel_rfl) rfl rfl ⟨hx395_0, hx396_0, hx398_0, hx399_0, hx400_0⟩ (fun hHeld => ?_); refine with_tabW calamuslaw01_FixedKnown.tab30 calamuslaw01_FixedKnown.bits30 (fun HT_ HW_ => ?_)
                                               generalize wr.drew = w78 at HO_23 HB hx395_0 hx396_0 hx398_0 hx399_0 hx400_0 hHeld ⊢
                                               refine pure_ (i := 0) (N := some 151) (v := ?_) (a' := ?_) #[true, false, false, false, false, false, false, false, false, false, false, false, false, false, false, false, false, false, false, false, false, false, false, false, false, false, false] rfl rfl (any_of HT_.out (by kernel_rfl)) (fun _ _ _ h => h) (Or.inl ⟨by rfl, ?_⟩) ?_ ?_
                                               rotate_left
                                               · intro w'
                                                 go_simp
                                                 with_reducible rfl
                                               rotate_left
                                               · simp only [Act.put, List.setIfInBounds_toArray, List.set_cons_zero, List.set_cons_succ, i64_w, i32_w]
                                                 rfl
                                               refine pure_ (i := 1) (N := some 152) (v := ?_) (a' := ?_) #[true, true, false, false, false, false, false, false, false, false, false, false, false, false, false, false, false, false, false, false, false, false, false, false, false, false, false] rfl rfl (any_of HT_.out (by kernel_rfl)) (fun _ _ _ h => h) (Or.inl ⟨by rfl, ?_⟩) ?_ ?_
                                               rotate_left
                                               · intro w'
                                                 go_simp
                                                 with_reducible rfl
                                               rotate_left
                                               · simp only [Act.put, List.setIfInBounds_toArray, List.set_cons_zero, List.set_cons_succ, i64_w, i32_w]
                                                 rfl
                                               refine pure_ (i := 2) (N := some 153) (v := ?_) (a' := ?_) #[true, true, true, false, false, false, false, false, false, false, false, false, false, false, false, false, false, false, false, false, false, false, false, false, false, false, false] rfl rfl (any_of HT_.out (by kernel_rfl)) (fun _ _ _ h => h) (Or.inl ⟨by rfl, ?_⟩) ?_ ?_
                                               rotate_left
                                               · intro w'
                                                 go_simp
                                                 with_reducible rfl
                                               rotate_left
                                               · simp only [Act.put, List.setIfInBounds_toArray, List.set_cons_zero, List.set_cons_succ, i64_w, i32_w]
                                                 rfl
                                               refine pure_ (i := 4) (N := some 155) (v := ?_) (a' := ?_) #[true, true, true, false, true, false, false, false, false, false, false, false, false, false, false, false, false, false, false, false, false, false, false, false, false, false, false] rfl rfl (any_of HT_.out (by kernel_rfl)) (fun _ _ _ h => h) (Or.inl ⟨by rfl, ?_⟩) ?_ ?_
                                               rotate_left
                                               · intro w'
                                                 go_simp
                                                 with_reducible rfl
                                               rotate_left
                                               · simp only [Act.put, List.setIfInBounds_toArray, List.set_cons_zero, List.set_cons_succ, i64_w, i32_w]
                                                 rfl
                                               refine pure_ (i := 5) (N := some 156) (v := ?_) (a' := ?_) #[true, true, true, false, true, true, false, false, false, false, false, false, false, false, false, false, false, false, false, false, false, false, false, false, false, false, false] rfl rfl (any_of HT_.out (by kernel_rfl)) (fun _ _ _ h => h) (Or.inl ⟨by rfl, ?_⟩) ?_ ?_
                                               rotate_left
                                               · intro w'
                                                 go_simp
                                                 with_reducible rfl
                                               rotate_left
                                               · simp only [Act.put, List.setIfInBounds_toArray, List.set_cons_zero, List.set_cons_succ, i64_w, i32_w]
                                                 rfl
                                               refine pure_ (i := 6) (N := some 157) (v := ?_) (a' := ?_) #[true, true, true, false, true, true, true, false, false, false, false, false, false, false, false, false, false, false, false, false, false, false, false, false, false, false, false] rfl rfl (any_of HT_.out (by kernel_rfl)) (fun _ _ _ h => h) (Or.inl ⟨by rfl, ?_⟩) ?_ ?_
                                               rotate_left
                                               · intro w'
                                                 go_simp
                                                 with_reducible rfl
                                               rotate_left
                                               · simp only [Act.put, List.setIfInBounds_toArray, List.set_cons_zero, List.set_cons_succ, i64_w, i32_w]
                                                 rfl
                                               refine take_ (i := 3) (N := some 154) (v := ?_) (a' := ?_) #[true, true, true, true, true, true, true, false, false, false, false, false, false, false, false, false, false, false, false, false, false, false, false, false, false, false, false] rfl rfl (take_ofW HT_.out HW_.out (by kernel_rfl)) (fun _ _ _ h => h) (Or.inl ⟨by rfl, ?_⟩) hHeld ?_ ?_
                                               rotate_left
                                               · rintro w' ⟨s0, s1, s2, s3, s4⟩
                                                 go_simp
                                                 with_reducible rfl
                                               rotate_left
                                               · simp only [Act.put, List.setIfInBounds_toArray, List.set_cons_zero, List.set_cons_succ, i64_w, i32_w]
                                                 rfl
                                               refine take_ (i := 7) (N := some 158) (v := ?_) (a' := ?_) #[true, true, true, true, true, true, true, true, false, false, false, false, false, false, false, false, false, false, false, false, false, false, false, false, false, false, false] rfl rfl (take_ofW HT_.out HW_.out (by kernel_rfl)) (fun _ _ _ h => h) (Or.inl ⟨by rfl, ?_⟩) hHeld ?_ ?_
                                               rotate_left
                                               · rintro w' ⟨s0, s1, s2, s3, s4⟩
                                                 go_simp
                                                 with_reducible rfl
                                               rotate_left
                                               · simp only [Act.put, List.setIfInBounds_toArray, List.set_cons_zero, List.set_cons_succ, i64_w, i32_w]
                                                 rfl
                                               refine one_ (i := 8) (N := some 159) #[true, true, true, true, true, true, true, true, true, false, false, false, false, false, false, false, false, false, false, false, false, false, false, false, false, false, false] rfl rfl (one_of HT_.out (by kernel_rfl)) (by decide) (fun K hK => ?_)
                                               refine goes_ Tryz.func10 (by kernel_rfl) rfl #[.int .i64 (rd y383 x24_4), .int .i64 (rd y383 x25_5)] (by rfl) rfl rfl (by (try simp only [List.map_toArray, List.map_cons, List.map_nil]); first | done | rfl | (simp only [List.length_drop, List.length_take]; rfl)) ?_
                                               with_reducible refine (calamuslaw01_FixedSums.calls k6 (rd y383 x24_4) (rd y383 x25_5) true _ A71.out (HWF.out.below (by repeat (first | (with_reducible first | exact HB.out | apply below_alloc | apply pw_below_drewN | apply below_drew1) | exact HB.out)))).mono ?_
                                               rintro e w79 ⟨rfl, hb⟩
                                               have HS0_ := (hb.cell (World.block_lt_of_cell? _ _ (hHeld.1))).trans (hHeld.1)
                                               have HS1_ := (hb.cell (World.block_lt_of_cell? _ _ (hHeld.2.1))).trans (hHeld.2.1)
                                               have HS2_ := (hb.cell (World.block_lt_of_cell? _ _ (hHeld.2.2.1))).trans (hHeld.2.2.1)
                                               have HS3_ := (hb.cell (World.block_lt_of_cell? _ _ (hHeld.2.2.2.1))).trans (hHeld.2.2.2.1)
                                               have HS4_ := (hb.cell (World.block_lt_of_cell? _ _ (hHeld.2.2.2.2))).trans (hHeld.2.2.2.2)
                                               refine ⟨_, rfl, ?_⟩
                                               have n0_ := Aside0.mk (Kd.R_below (by (with_reducible repeat (first | apply Kd.R_alloc | apply Kd.R_drewN | apply Kd.R_drew)); exact HO_23.out) hb)
                                               have n1_ := Aside0.mk (below_step (by repeat (first | (with_reducible first | exact HB.out | apply below_alloc | apply pw_below_drewN | apply below_drew1) | exact HB.out)) hb)
                                               clear HO_23
                                               clear HB
                                               have HO_23 := n0_
                                               have HB := n1_
                                               clear n0_ n1_
                                               (try clear hb)
                                               (try clear hb2)
                                               (try clear hk)
                                               (try clear hi)
                                               refine hK.out _ _ ⟨HS0_, HS1_, HS2_, HS3_, HS4_⟩ (fun hHeld => ?_)
                                               clear hK K
                                               refine norm_ (a' := ?_) ?_ ?_
                                               rotate_left
                                               · show Act.put _ (some 159) _ = _
                                                 simp only [Act.put, List.setIfInBounds_toArray, List.set_cons_zero, List.set_cons_succ, i64_w, i32_w]
                                                 rfl
                                               refine pure_ (i := 9) (N := some 160) (v := ?_) (a' := ?_) #[true, true, true, true, true, true, true, true, true, true, false, false, false, false, false, false, false, false, false, false, false, false, false, false, false, false, false] rfl rfl (any_of HT_.out (by kernel_rfl)) (fun _ _ _ h => h) (Or.inl ⟨by rfl, ?_⟩) ?_ ?_
                                               rotate_left
                                               · intro w'
                                                 go_simp
                                                 with_reducible rfl
                                               rotate_left
                                               · simp only [Act.put, List.setIfInBounds_toArray, List.set_cons_zero, List.set_cons_succ, i64_w, i32_w]
                                                 rfl
                                               refine pure_ (i := 10) (N := some 161) (v := ?_) (a' := ?_) #[true, true, true, true, true, true, true, true, true, true, true, false, false, false, false, false, false, false, false, false, false, false, false, false, false, false, false] rfl rfl (any_of HT_.out (by kernel_rfl)) (fun _ _ _ h => h) (Or.inl ⟨by rfl, ?_⟩) ?_ ?_
                                               rotate_left
                                               · intro w'
                                                 go_simp
                                                 with_reducible rfl
                                               rotate_left
                                               · simp only [Act.put, List.setIfInBounds_toArray, List.set_cons_zero, List.set_cons_succ, i64_w, i32_w]
                                                 rfl
                                               refine pure_ (i := 11) (N := some 162) (v := ?_) (a' := ?_) #[true, true, true, true, true, true, true, true, true, true, true, true, false, false, false, false, false, false, false, false, false, false, false, false, false, false, false] rfl rfl (any_of HT_.out (by kernel_rfl)) (fun _ _ _ h => h) (Or.inl ⟨by rfl, ?_⟩) ?_ ?_
                                               rotate_left
                                               · intro w'
                                                 go_simp
                                                 with_reducible rfl
                                               rotate_left
                                               · simp only [Act.put, List.setIfInBounds_toArray, List.set_cons_zero, List.set_cons_succ, i64_w, i32_w]
                                                 rfl
                                               refine pure_ (i := 12) (N := some 163) (v := ?_) (a' := ?_) #[true, true, true, true, true, true, true, true, true, true, true, true, true, false, false, false, false, false, false, false, false, false, false, false, false, false, false] rfl rfl (any_of HT_.out (by kernel_rfl)) (fun _ _ _ h => h) (Or.inl ⟨by rfl, ?_⟩) ?_ ?_
                                               rotate_left
                                               · intro w'
                                                 go_simp
                                                 with_reducible rfl
                                               rotate_left
                                               · simp only [Act.put, List.setIfInBounds_toArray, List.set_cons_zero, List.set_cons_succ, i64_w, i32_w]
                                                 rfl
                                               refine pure_ (i := 13) (N := some 164) (v := ?_) (a' := ?_) #[true, true, true, true, true, true, true, true, true, true, true, true, true, true, false, false, false, false, false, false, false, false, false, false, false, false, false] rfl rfl (any_of HT_.out (by kernel_rfl)) (fun _ _ _ h => h) (Or.inl ⟨by rfl, ?_⟩) ?_ ?_
                                               rotate_left
                                               · intro w'
                                                 go_simp
                                                 with_reducible rfl
                                               rotate_left
                                               · simp only [Act.put, List.setIfInBounds_toArray, List.set_cons_zero, List.set_cons_succ, i64_w, i32_w]
                                                 rfl
                                               refine pure_ (i := 15) (N := some 166) (v := ?_) (a' := ?_) #[true, true, true, true, true, true, true, true, true, true, true, true, true, true, false, true, false, false, false, false, false, false, false, false, false, false, false] rfl rfl (any_of HT_.out (by kernel_rfl)) (fun _ _ _ h => h) (Or.inl ⟨by rfl, ?_⟩) ?_ ?_
                                               rotate_left
                                               · intro w'
                                                 go_simp
                                                 with_reducible rfl
                                               rotate_left
                                               · simp only [Act.put, List.setIfInBounds_toArray, List.set_cons_zero, List.set_cons_succ, i64_w, i32_w]
                                                 rfl
                                               refine pure_ (i := 16) (N := some 167) (v := ?_) (a' := ?_) #[true, true, true, true, true, true, true, true, true, true, true, true, true, true, false, true, true, false, false, false, false, false, false, false, false, false, false] rfl rfl (any_of HT_.out (by kernel_rfl)) (fun _ _ _ h => h) (Or.inl ⟨by rfl, ?_⟩) ?_ ?_
                                               rotate_left
                                               · intro w'
                                                 go_simp
                                                 with_reducible rfl
                                               rotate_left
                                               · simp only [Act.put, List.setIfInBounds_toArray, List.set_cons_zero, List.set_cons_succ, i64_w, i32_w]
                                                 rfl
                                               refine pure_ (i := 17) (N := some 168) (v := ?_) (a' := ?_) #[true, true, true, true, true, true, true, true, true, true, true, true, true, true, false, true, true, true, false, false, false, false, false, false, false, false, false] rfl rfl (any_of HT_.out (by kernel_rfl)) (fun _ _ _ h => h) (Or.inl ⟨by rfl, ?_⟩) ?_ ?_
                                               rotate_left
                                               · intro w'
                                                 go_simp
                                                 with_reducible rfl
                                               rotate_left
                                               · simp only [Act.put, List.setIfInBounds_toArray, List.set_cons_zero, List.set_cons_succ, i64_w, i32_w]
                                                 rfl
                                               refine pure_ (i := 19) (N := some 170) (v := ?_) (a' := ?_) #[true, true, true, true, true, true, true, true, true, true, true, true, true, true, false, true, true, true, false, true, false, false, false, false, false, false, false] rfl rfl (any_of HT_.out (by kernel_rfl)) (fun _ _ _ h => h) (Or.inl ⟨by rfl, ?_⟩) ?_ ?_
                                               rotate_left
                                               · intro w'
                                                 go_simp
                                                 with_reducible rfl
                                               rotate_left
                                               · simp only [Act.put, List.setIfInBounds_toArray, List.set_cons_zero, List.set_cons_succ, i64_w, i32_w]
                                                 rfl
                                               refine pure_ (i := 20) (N := some 171) (v := ?_) (a' := ?_) #[true, true, true, true, true, true, true, true, true, true, true, true, true, true, false, true, true, true, false, true, true, false, false, false, false, false, false] rfl rfl (any_of HT_.out (by kernel_rfl)) (fun _ _ _ h => h) (Or.inl ⟨by rfl, ?_⟩) ?_ ?_
                                               rotate_left
                                               · intro w'
                                                 go_simp
                                                 with_reducible rfl
                                               rotate_left
                                               · simp only [Act.put, List.setIfInBounds_toArray, List.set_cons_zero, List.set_cons_succ, i64_w, i32_w]
                                                 rfl
                                               refine pure_ (i := 21) (N := some 172) (v := ?_) (a' := ?_) #[true, true, true, true, true, true, true, true, true, true, true, true, true, true, false, true, true, true, false, true, true, true, false, false, false, false, false] rfl rfl (any_of HT_.out (by kernel_rfl)) (fun _ _ _ h => h) (Or.inl ⟨by rfl, ?_⟩) ?_ ?_
                                               rotate_left
                                               · intro w'
                                                 go_simp
                                                 with_reducible rfl
                                               rotate_left
                                               · simp only [Act.put, List.setIfInBounds_toArray, List.set_cons_zero, List.set_cons_succ, i64_w, i32_w]
                                                 rfl
                                               refine take_ (i := 14) (N := some 165) (v := ?_) (a' := ?_) #[true, true, true, true, true, true, true, true, true, true, true, true, true, true, true, true, true, true, false, true, true, true, false, false, false, false, false] rfl rfl (take_ofW HT_.out HW_.out (by kernel_rfl)) (fun _ _ _ h => h) (Or.inl ⟨by rfl, ?_⟩) hHeld ?_ ?_
                                               rotate_left
                                               · rintro w' ⟨s0, s1, s2, s3, s4⟩
                                                 go_simp
                                                 with_reducible rfl
                                               rotate_left
                                               · simp only [Act.put, List.setIfInBounds_toArray, List.set_cons_zero, List.set_cons_succ, i64_w, i32_w]
                                                 rfl
                                               refine take_ (i := 18) (N := some 169) (v := ?_) (a' := ?_) #[true, true, true, true, true, true, true, true, true, true, true, true, true, true, true, true, true, true, true, true, true, true, false, false, false, false, false] rfl rfl (take_ofW HT_.out HW_.out (by kernel_rfl)) (fun _ _ _ h => h) (Or.inl ⟨by rfl, ?_⟩) hHeld ?_ ?_
                                               rotate_left
                                               · rintro w' ⟨s0, s1, s2, s3, s4⟩
                                                 go_simp
                                                 with_reducible rfl
                                               rotate_left
                                               · simp only [Act.put, List.setIfInBounds_toArray, List.set_cons_zero, List.set_cons_succ, i64_w, i32_w]
                                                 rfl
                                               refine take_ (i := 22) (N := some 173) (v := ?_) (a' := ?_) #[true, true, true, true, true, true, true, true, true, true, true, true, true, true, true, true, true, true, true, true, true, true, true, false, false, false, false] rfl rfl (take_ofW HT_.out HW_.out (by kernel_rfl)) (fun _ _ _ h => h) (Or.inl ⟨by rfl, ?_⟩) hHeld ?_ ?_
                                               rotate_left
                                               · rintro w' ⟨s0, s1, s2, s3, s4⟩
                                                 go_simp
                                                 with_reducible rfl
                                               rotate_left
                                               · simp only [Act.put, List.setIfInBounds_toArray, List.set_cons_zero, List.set_cons_succ, i64_w, i32_w]
                                                 rfl
                                               refine pure_ (i := 23) (N := some 174) (v := ?_) (a' := ?_) #[true, true, true, true, true, true, true, true, true, true, true, true, true, true, true, true, true, true, true, true, true, true, true, true, false, false, false] rfl rfl (any_of HT_.out (by kernel_rfl)) (fun _ _ _ h => h) (Or.inl ⟨by rfl, ?_⟩) ?_ ?_
                                               rotate_left
                                               · intro w'
                                                 go_simp
                                                 with_reducible rfl
                                               rotate_left
                                               · simp only [Act.put, List.setIfInBounds_toArray, List.set_cons_zero, List.set_cons_succ, i64_w, i32_w]
                                                 rfl
                                               refine one_ (i := 24) (N := some 175) #[true, true, true, true, true, true, true, true, true, true, true, true, true, true, true, true, true, true, true, true, true, true, true, true, true, false, false] rfl rfl (one_of HT_.out (by kernel_rfl)) (by decide) (fun K hK => ?_)
                                               refine goes_ Tryz.func11 (by kernel_rfl) rfl #[.int .i64 (rd y383 x24_4), .int .i64 (rd y383 x25_5), .int .u16 (IntKind.u16.wrap (rd y383 x24_4))] (by rfl) rfl rfl (by (try simp only [List.map_toArray, List.map_cons, List.map_nil]); first | done | rfl | (simp only [List.length_drop, List.length_take]; rfl)) ?_
                                               with_reducible refine (calamuslaw01_FixedScales.calls k6 (rd y383 x24_4) (rd y383 x25_5) (IntKind.u16.wrap (rd y383 x24_4)) false _ A73.out (HWF.out.below (by repeat (first | (with_reducible first | exact HB.out | apply below_alloc | apply pw_below_drewN | apply below_drew1) | exact HB.out)))).mono ?_
                                               rintro e w80 ⟨rfl, hb⟩
                                               have HS0_ := (hb.cell (World.block_lt_of_cell? _ _ (hHeld.1))).trans (hHeld.1)
                                               have HS1_ := (hb.cell (World.block_lt_of_cell? _ _ (hHeld.2.1))).trans (hHeld.2.1)
                                               have HS2_ := (hb.cell (World.block_lt_of_cell? _ _ (hHeld.2.2.1))).trans (hHeld.2.2.1)
                                               have HS3_ := (hb.cell (World.block_lt_of_cell? _ _ (hHeld.2.2.2.1))).trans (hHeld.2.2.2.1)
                                               have HS4_ := (hb.cell (World.block_lt_of_cell? _ _ (hHeld.2.2.2.2))).trans (hHeld.2.2.2.2)
                                               refine ⟨_, rfl, ?_⟩
                                               have n0_ := Aside0.mk (Kd.R_below (by (with_reducible repeat (first | apply Kd.R_alloc | apply Kd.R_drewN | apply Kd.R_drew)); exact HO_23.out) hb)
                                               have n1_ := Aside0.mk (below_step (by repeat (first | (with_reducible first | exact HB.out | apply below_alloc | apply pw_below_drewN | apply below_drew1) | exact HB.out)) hb)
                                               clear HO_23
                                               clear HB
                                               have HO_23 := n0_
                                               have HB := n1_
                                               clear n0_ n1_
                                               (try clear hb)
                                               (try clear hb2)
                                               (try clear hk)
                                               (try clear hi)
                                               refine hK.out _ _ ⟨HS0_, HS1_, HS2_, HS3_, HS4_⟩ (fun hHeld => ?_)
                                               clear hK K
                                               refine norm_ (a' := ?_) ?_ ?_
                                               rotate_left
                                               · show Act.put _ (some 175) _ = _
                                                 simp only [Act.put, List.setIfInBounds_toArray, List.set_cons_zero, List.set_cons_succ, i64_w, i32_w]
                                                 rfl
                                               refine pure_ (i := 25) (N := some 176) (v := ?_) (a' := ?_) #[true, true, true, true, true, true, true, true, true, true, true, true, true, true, true, true, true, true, true, true, true, true, true, true, true, true, false] rfl rfl (any_of HT_.out (by kernel_rfl)) (fun _ _ _ h => h) (Or.inl ⟨by rfl, ?_⟩) ?_ ?_
                                               rotate_left
                                               · intro w'
                                                 go_simp
                                                 with_reducible rfl
                                               rotate_left
                                               · simp only [Act.put, List.setIfInBounds_toArray, List.set_cons_zero, List.set_cons_succ, i64_w, i32_w]
                                                 rfl
                                               refine pure_ (i := 26) (N := some 177) (v := ?_) (a' := ?_) #[true, true, true, true, true, true, true, true, true, true, true, true, true, true, true, true, true, true, true, true, true, true, true, true, true, true, true] rfl rfl (any_of HT_.out (by kernel_rfl)) (fun _ _ _ h => h) (Or.inl ⟨by rfl, ?_⟩) ?_ ?_
                                               rotate_left
                                               · intro w'
                                                 go_simp
                                                 with_reducible rfl
                                               rotate_left
                                               · simp only [Act.put, List.setIfInBounds_toArray, List.set_cons_zero, List.set_cons_succ, i64_w, i32_w]
                                                 rfl
                                               refine done_ (done_of HT_.out (by kernel_rfl)) ?_
                                               try go_wp2
                                               go_ret
                                               exact ⟨by first | rfl | (simp [errW_none, errW_some] <;> rfl) | (simp [*, errW_none, errW_some] <;> rfl), by repeat (first | (with_reducible first | exact HB.out | apply below_alloc | apply pw_below_drewN | apply below_drew1) | exact HB.out)⟩
                                          · as_aux_lemma =>
                                             replace c72 := Bool.eq_false_iff.mpr c72
                                             subst c72
                                             have H1 : (some false) = some r := by rw [if_neg (show ¬ (false = true) by decide)] at H; exact H
                                             clear H
                                             have H := H1
                                             clear H1
                                             obtain rfl := Option.some.inj H
                                             try go_wp2
                                             have n0_ := Aside0.mk (Kd.R_drew HO_23.out)
                                             have n1_ := Aside0.mk (below_drew1 HB.out)
                                             clear HO_23
                                             clear HB
                                             have HO_23 := n0_
                                             have HB := n1_
                                             clear n0_ n1_
                                             have p395 : 0 ≤ (x24_4 : Int) := of_decide_eq_true (by first | (with_reducible assumption) | assumption)
                                             have q395 : x24_4 < (y383.length : Int) := of_decide_eq_true (by first | (with_reducible assumption) | assumption)
                                             obtain ⟨ad395, e395, hx395_0⟩ := Kd.at_int (Kd.R_reads' HO_23.out).2.2 x24_4 p395 q395
                                             cases e395
                                             replace p395 := eq_true p395
                                             replace q395 := eq_true q395
                                             have p396 : 0 ≤ (x25_5 : Int) := of_decide_eq_true (by first | (with_reducible assumption) | assumption)
                                             have q396 : x25_5 < (y383.length : Int) := of_decide_eq_true (by first | (with_reducible assumption) | assumption)
                                             obtain ⟨ad396, e396, hx396_0⟩ := Kd.at_int (Kd.R_reads' HO_23.out).2.2 x25_5 p396 q396
                                             obtain rfl : ad395 = ad396 := (by injection e396)
                                             replace p396 := eq_true p396
                                             replace q396 := eq_true q396
                                             refine start_ (n := 27) (S := fun w' => w'.cell? (ad395.add (x24_4).toNat) = some (.int .i64 (rd y383 x24_4)) ∧ w'.cell? (ad395.add (x25_5).toNat) = some (.int .i64 (rd y383 x25_5))) (ds := []) #[false, false, false, false, false, false, false, false, false, false, false, false, false, false, false, false, false, false, false, false, false, false, false, false, false, false, false] (by kernel_rfl) rfl rfl ⟨hx395_0, hx396_0⟩ (fun hHeld => ?_); refine with_tabW calamuslaw01_FixedKnown.tab30 calamuslaw01_FixedKnown.bits30 (fun HT_ HW_ => ?_)
                                             generalize wr.drew = w81 at HO_23 HB hx395_0 hx396_0 hHeld ⊢
                                             refine pure_ (i := 0) (N := some 151) (v := ?_) (a' := ?_) #[true, false, false, false, false, false, false, false, false, false, false, false, false, false, false, false, false, false, false, false, false, false, false, false, false, false, false] rfl rfl (any_of HT_.out (by kernel_rfl)) (fun _ _ _ h => h) (Or.inl ⟨by rfl, ?_⟩) ?_ ?_
                                             rotate_left
                                             · intro w'
                                               go_simp
                                               with_reducible rfl
                                             rotate_left
                                             · simp only [Act.put, List.setIfInBounds_toArray, List.set_cons_zero, List.set_cons_succ, i64_w, i32_w]
                                               rfl
                                             refine pure_ (i := 1) (N := some 152) (v := ?_) (a' := ?_) #[true, true, false, false, false, false, false, false, false, false, false, false, false, false, false, false, false, false, false, false, false, false, false, false, false, false, false] rfl rfl (any_of HT_.out (by kernel_rfl)) (fun _ _ _ h => h) (Or.inl ⟨by rfl, ?_⟩) ?_ ?_
                                             rotate_left
                                             · intro w'
                                               go_simp
                                               with_reducible rfl
                                             rotate_left
                                             · simp only [Act.put, List.setIfInBounds_toArray, List.set_cons_zero, List.set_cons_succ, i64_w, i32_w]
                                               rfl
                                             refine pure_ (i := 2) (N := some 153) (v := ?_) (a' := ?_) #[true, true, true, false, false, false, false, false, false, false, false, false, false, false, false, false, false, false, false, false, false, false, false, false, false, false, false] rfl rfl (any_of HT_.out (by kernel_rfl)) (fun _ _ _ h => h) (Or.inl ⟨by rfl, ?_⟩) ?_ ?_
                                             rotate_left
                                             · intro w'
                                               go_simp
                                               with_reducible rfl
                                             rotate_left
                                             · simp only [Act.put, List.setIfInBounds_toArray, List.set_cons_zero, List.set_cons_succ, i64_w, i32_w]
                                               rfl
                                             refine pure_ (i := 4) (N := some 155) (v := ?_) (a' := ?_) #[true, true, true, false, true, false, false, false, false, false, false, false, false, false, false, false, false, false, false, false, false, false, false, false, false, false, false] rfl rfl (any_of HT_.out (by kernel_rfl)) (fun _ _ _ h => h) (Or.inl ⟨by rfl, ?_⟩) ?_ ?_
                                             rotate_left
                                             · intro w'
                                               go_simp
                                               with_reducible rfl
                                             rotate_left
                                             · simp only [Act.put, List.setIfInBounds_toArray, List.set_cons_zero, List.set_cons_succ, i64_w, i32_w]
                                               rfl
                                             refine pure_ (i := 5) (N := some 156) (v := ?_) (a' := ?_) #[true, true, true, false, true, true, false, false, false, false, false, false, false, false, false, false, false, false, false, false, false, false, false, false, false, false, false] rfl rfl (any_of HT_.out (by kernel_rfl)) (fun _ _ _ h => h) (Or.inl ⟨by rfl, ?_⟩) ?_ ?_
                                             rotate_left
                                             · intro w'
                                               go_simp
                                               with_reducible rfl
                                             rotate_left
                                             · simp only [Act.put, List.setIfInBounds_toArray, List.set_cons_zero, List.set_cons_succ, i64_w, i32_w]
                                               rfl
                                             refine pure_ (i := 6) (N := some 157) (v := ?_) (a' := ?_) #[true, true, true, false, true, true, true, false, false, false, false, false, false, false, false, false, false, false, false, false, false, false, false, false, false, false, false] rfl rfl (any_of HT_.out (by kernel_rfl)) (fun _ _ _ h => h) (Or.inl ⟨by rfl, ?_⟩) ?_ ?_
                                             rotate_left
                                             · intro w'
                                               go_simp
                                               with_reducible rfl
                                             rotate_left
                                             · simp only [Act.put, List.setIfInBounds_toArray, List.set_cons_zero, List.set_cons_succ, i64_w, i32_w]
                                               rfl
                                             refine take_ (i := 3) (N := some 154) (v := ?_) (a' := ?_) #[true, true, true, true, true, true, true, false, false, false, false, false, false, false, false, false, false, false, false, false, false, false, false, false, false, false, false] rfl rfl (take_ofW HT_.out HW_.out (by kernel_rfl)) (fun _ _ _ h => h) (Or.inl ⟨by rfl, ?_⟩) hHeld ?_ ?_
                                             rotate_left
                                             · rintro w' ⟨s0, s1⟩
                                               go_simp
                                               with_reducible rfl
                                             rotate_left
                                             · simp only [Act.put, List.setIfInBounds_toArray, List.set_cons_zero, List.set_cons_succ, i64_w, i32_w]
                                               rfl
                                             refine take_ (i := 7) (N := some 158) (v := ?_) (a' := ?_) #[true, true, true, true, true, true, true, true, false, false, false, false, false, false, false, false, false, false, false, false, false, false, false, false, false, false, false] rfl rfl (take_ofW HT_.out HW_.out (by kernel_rfl)) (fun _ _ _ h => h) (Or.inl ⟨by rfl, ?_⟩) hHeld ?_ ?_
                                             rotate_left
                                             · rintro w' ⟨s0, s1⟩
                                               go_simp
                                               with_reducible rfl
                                             rotate_left
                                             · simp only [Act.put, List.setIfInBounds_toArray, List.set_cons_zero, List.set_cons_succ, i64_w, i32_w]
                                               rfl
                                             refine one_ (i := 8) (N := some 159) #[true, true, true, true, true, true, true, true, true, false, false, false, false, false, false, false, false, false, false, false, false, false, false, false, false, false, false] rfl rfl (one_of HT_.out (by kernel_rfl)) (by decide) (fun K hK => ?_)
                                             refine goes_ Tryz.func10 (by kernel_rfl) rfl #[.int .i64 (rd y383 x24_4), .int .i64 (rd y383 x25_5)] (by rfl) rfl rfl (by (try simp only [List.map_toArray, List.map_cons, List.map_nil]); first | done | rfl | (simp only [List.length_drop, List.length_take]; rfl)) ?_
                                             with_reducible refine (calamuslaw01_FixedSums.calls k6 (rd y383 x24_4) (rd y383 x25_5) false _ A71.out (HWF.out.below (by repeat (first | (with_reducible first | exact HB.out | apply below_alloc | apply pw_below_drewN | apply below_drew1) | exact HB.out)))).mono ?_
                                             rintro e w82 ⟨rfl, hb⟩
                                             have HS0_ := (hb.cell (World.block_lt_of_cell? _ _ (hHeld.1))).trans (hHeld.1)
                                             have HS1_ := (hb.cell (World.block_lt_of_cell? _ _ (hHeld.2))).trans (hHeld.2)
                                             refine ⟨_, rfl, ?_⟩
                                             have n0_ := Aside0.mk (Kd.R_below (by (with_reducible repeat (first | apply Kd.R_alloc | apply Kd.R_drewN | apply Kd.R_drew)); exact HO_23.out) hb)
                                             have n1_ := Aside0.mk (below_step (by repeat (first | (with_reducible first | exact HB.out | apply below_alloc | apply pw_below_drewN | apply below_drew1) | exact HB.out)) hb)
                                             clear HO_23
                                             clear HB
                                             have HO_23 := n0_
                                             have HB := n1_
                                             clear n0_ n1_
                                             (try clear hb)
                                             (try clear hb2)
                                             (try clear hk)
                                             (try clear hi)
                                             refine hK.out _ _ ⟨HS0_, HS1_⟩ (fun hHeld => ?_)
                                             clear hK K
                                             refine norm_ (a' := ?_) ?_ ?_
                                             rotate_left
                                             · show Act.put _ (some 159) _ = _
                                               simp only [Act.put, List.setIfInBounds_toArray, List.set_cons_zero, List.set_cons_succ, i64_w, i32_w]
                                               rfl
                                             refine pure_ (i := 9) (N := some 160) (v := ?_) (a' := ?_) #[true, true, true, true, true, true, true, true, true, true, false, false, false, false, false, false, false, false, false, false, false, false, false, false, false, false, false] rfl rfl (any_of HT_.out (by kernel_rfl)) (fun _ _ _ h => h) (Or.inl ⟨by rfl, ?_⟩) ?_ ?_
                                             rotate_left
                                             · intro w'
                                               go_simp
                                               with_reducible rfl
                                             rotate_left
                                             · simp only [Act.put, List.setIfInBounds_toArray, List.set_cons_zero, List.set_cons_succ, i64_w, i32_w]
                                               rfl
                                             refine pure_ (i := 10) (N := some 161) (v := ?_) (a' := ?_) #[true, true, true, true, true, true, true, true, true, true, true, false, false, false, false, false, false, false, false, false, false, false, false, false, false, false, false] rfl rfl (any_of HT_.out (by kernel_rfl)) (fun _ _ _ h => h) (Or.inl ⟨by rfl, ?_⟩) ?_ ?_
                                             rotate_left
                                             · intro w'
                                               go_simp
                                               with_reducible rfl
                                             rotate_left
                                             · simp only [Act.put, List.setIfInBounds_toArray, List.set_cons_zero, List.set_cons_succ, i64_w, i32_w]
                                               rfl
                                             refine pure_ (i := 11) (N := some 162) (v := undef) (a' := ?_) #[true, true, true, true, true, true, true, true, true, true, true, true, false, false, false, false, false, false, false, false, false, false, false, false, false, false, false] rfl rfl (any_of HT_.out (by kernel_rfl)) (fun _ _ _ h => h) (Or.inr ⟨by rfl, rfl⟩) ?_ ?_
                                             rotate_left
                                             · simp only [Act.put, List.setIfInBounds_toArray, List.set_cons_zero, List.set_cons_succ, i64_w, i32_w]
                                               rfl
                                             refine pure_ (i := 12) (N := some 163) (v := undef) (a' := ?_) #[true, true, true, true, true, true, true, true, true, true, true, true, true, false, false, false, false, false, false, false, false, false, false, false, false, false, false] rfl rfl (any_of HT_.out (by kernel_rfl)) (fun _ _ _ h => h) (Or.inr ⟨by rfl, rfl⟩) ?_ ?_
                                             rotate_left
                                             · simp only [Act.put, List.setIfInBounds_toArray, List.set_cons_zero, List.set_cons_succ, i64_w, i32_w]
                                               rfl
                                             refine pure_ (i := 13) (N := some 164) (v := undef) (a' := ?_) #[true, true, true, true, true, true, true, true, true, true, true, true, true, true, false, false, false, false, false, false, false, false, false, false, false, false, false] rfl rfl (any_of HT_.out (by kernel_rfl)) (fun _ _ _ h => h) (Or.inr ⟨by rfl, rfl⟩) ?_ ?_
                                             rotate_left
                                             · simp only [Act.put, List.setIfInBounds_toArray, List.set_cons_zero, List.set_cons_succ, i64_w, i32_w]
                                               rfl
                                             refine pure_ (i := 14) (N := some 165) (v := undef) (a' := ?_) #[true, true, true, true, true, true, true, true, true, true, true, true, true, true, true, false, false, false, false, false, false, false, false, false, false, false, false] rfl rfl (any_of HT_.out (by kernel_rfl)) (fun _ _ _ h => h) (Or.inr ⟨by rfl, rfl⟩) ?_ ?_
                                             rotate_left
                                             · simp only [Act.put, List.setIfInBounds_toArray, List.set_cons_zero, List.set_cons_succ, i64_w, i32_w]
                                               rfl
                                             refine pure_ (i := 15) (N := some 166) (v := undef) (a' := ?_) #[true, true, true, true, true, true, true, true, true, true, true, true, true, true, true, true, false, false, false, false, false, false, false, false, false, false, false] rfl rfl (any_of HT_.out (by kernel_rfl)) (fun _ _ _ h => h) (Or.inr ⟨by rfl, rfl⟩) ?_ ?_
                                             rotate_left
                                             · simp only [Act.put, List.setIfInBounds_toArray, List.set_cons_zero, List.set_cons_succ, i64_w, i32_w]
                                               rfl
                                             refine pure_ (i := 16) (N := some 167) (v := undef) (a' := ?_) #[true, true, true, true, true, true, true, true, true, true, true, true, true, true, true, true, true, false, false, false, false, false, false, false, false, false, false] rfl rfl (any_of HT_.out (by kernel_rfl)) (fun _ _ _ h => h) (Or.inr ⟨by rfl, rfl⟩) ?_ ?_
                                             rotate_left
                                             · simp only [Act.put, List.setIfInBounds_toArray, List.set_cons_zero, List.set_cons_succ, i64_w, i32_w]
                                               rfl
                                             refine pure_ (i := 17) (N := some 168) (v := undef) (a' := ?_) #[true, true, true, true, true, true, true, true, true, true, true, true, true, true, true, true, true, true, false, false, false, false, false, false, false, false, false] rfl rfl (any_of HT_.out (by kernel_rfl)) (fun _ _ _ h => h) (Or.inr ⟨by rfl, rfl⟩) ?_ ?_
                                             rotate_left
                                             · simp only [Act.put, List.setIfInBounds_toArray, List.set_cons_zero, List.set_cons_succ, i64_w, i32_w]
                                               rfl
                                             refine pure_ (i := 18) (N := some 169) (v := undef) (a' := ?_) #[true, true, true, true, true, true, true, true, true, true, true, true, true, true, true, true, true, true, true, false, false, false, false, false, false, false, false] rfl rfl (any_of HT_.out (by kernel_rfl)) (fun _ _ _ h => h) (Or.inr ⟨by rfl, rfl⟩) ?_ ?_
                                             rotate_left
                                             · simp only [Act.put, List.setIfInBounds_toArray, List.set_cons_zero, List.set_cons_succ, i64_w, i32_w]
                                               rfl
                                             refine pure_ (i := 19) (N := some 170) (v := undef) (a' := ?_) #[true, true, true, true, true, true, true, true, true, true, true, true, true, true, true, true, true, true, true, true, false, false, false, false, false, false, false] rfl rfl (any_of HT_.out (by kernel_rfl)) (fun _ _ _ h => h) (Or.inr ⟨by rfl, rfl⟩) ?_ ?_
                                             rotate_left
                                             · simp only [Act.put, List.setIfInBounds_toArray, List.set_cons_zero, List.set_cons_succ, i64_w, i32_w]
                                               rfl
                                             refine pure_ (i := 20) (N := some 171) (v := undef) (a' := ?_) #[true, true, true, true, true, true, true, true, true, true, true, true, true, true, true, true, true, true, true, true, true, false, false, false, false, false, false] rfl rfl (any_of HT_.out (by kernel_rfl)) (fun _ _ _ h => h) (Or.inr ⟨by rfl, rfl⟩) ?_ ?_
                                             rotate_left
                                             · simp only [Act.put, List.setIfInBounds_toArray, List.set_cons_zero, List.set_cons_succ, i64_w, i32_w]
                                               rfl
                                             refine pure_ (i := 21) (N := some 172) (v := undef) (a' := ?_) #[true, true, true, true, true, true, true, true, true, true, true, true, true, true, true, true, true, true, true, true, true, true, false, false, false, false, false] rfl rfl (any_of HT_.out (by kernel_rfl)) (fun _ _ _ h => h) (Or.inr ⟨by rfl, rfl⟩) ?_ ?_
                                             rotate_left
                                             · simp only [Act.put, List.setIfInBounds_toArray, List.set_cons_zero, List.set_cons_succ, i64_w, i32_w]
                                               rfl
                                             refine pure_ (i := 22) (N := some 173) (v := undef) (a' := ?_) #[true, true, true, true, true, true, true, true, true, true, true, true, true, true, true, true, true, true, true, true, true, true, true, false, false, false, false] rfl rfl (any_of HT_.out (by kernel_rfl)) (fun _ _ _ h => h) (Or.inr ⟨by rfl, rfl⟩) ?_ ?_
                                             rotate_left
                                             · simp only [Act.put, List.setIfInBounds_toArray, List.set_cons_zero, List.set_cons_succ, i64_w, i32_w]
                                               rfl
                                             refine pure_ (i := 23) (N := some 174) (v := undef) (a' := ?_) #[true, true, true, true, true, true, true, true, true, true, true, true, true, true, true, true, true, true, true, true, true, true, true, true, false, false, false] rfl rfl (any_of HT_.out (by kernel_rfl)) (fun _ _ _ h => h) (Or.inr ⟨by rfl, rfl⟩) ?_ ?_
                                             rotate_left
                                             · simp only [Act.put, List.setIfInBounds_toArray, List.set_cons_zero, List.set_cons_succ, i64_w, i32_w]
                                               rfl
                                             refine pure_ (i := 24) (N := some 175) (v := undef) (a' := ?_) #[true, true, true, true, true, true, true, true, true, true, true, true, true, true, true, true, true, true, true, true, true, true, true, true, true, false, false] rfl rfl (any_of HT_.out (by kernel_rfl)) (fun _ _ _ h => h) (Or.inr ⟨by rfl, rfl⟩) ?_ ?_
                                             rotate_left
                                             · simp only [Act.put, List.setIfInBounds_toArray, List.set_cons_zero, List.set_cons_succ, i64_w, i32_w]
                                               rfl
                                             refine pure_ (i := 25) (N := some 176) (v := undef) (a' := ?_) #[true, true, true, true, true, true, true, true, true, true, true, true, true, true, true, true, true, true, true, true, true, true, true, true, true, true, false] rfl rfl (any_of HT_.out (by kernel_rfl)) (fun _ _ _ h => h) (Or.inr ⟨by rfl, rfl⟩) ?_ ?_
                                             rotate_left
                                             · simp only [Act.put, List.setIfInBounds_toArray, List.set_cons_zero, List.set_cons_succ, i64_w, i32_w]
                                               rfl
                                             refine pure_ (i := 26) (N := some 177) (v := ?_) (a' := ?_) #[true, true, true, true, true, true, true, true, true, true, true, true, true, true, true, true, true, true, true, true, true, true, true, true, true, true, true] rfl rfl (any_of HT_.out (by kernel_rfl)) (fun _ _ _ h => h) (Or.inl ⟨by rfl, ?_⟩) ?_ ?_
                                             rotate_left
                                             · intro w'
                                               go_simp
                                               with_reducible rfl
                                             rotate_left
                                             · simp only [Act.put, List.setIfInBounds_toArray, List.set_cons_zero, List.set_cons_succ, i64_w, i32_w]
                                               rfl
                                             refine done_ (done_of HT_.out (by kernel_rfl)) ?_
                                             try go_wp2
                                             go_ret
                                             exact ⟨by first | rfl | (simp [errW_none, errW_some] <;> rfl) | (simp [*, errW_none, errW_some] <;> rfl), by repeat (first | (with_reducible first | exact HB.out | apply below_alloc | apply pw_below_drewN | apply below_drew1) | exact HB.out)⟩
                                        · rw [if_neg c70] at H
                                          exact absurd H (by simp)
                                      · rw [if_neg c69] at H
                                        exact absurd H (by simp)
                                    · rw [if_neg c68] at H
                                      exact absurd H (by simp)
                                  · rw [if_neg c67] at H
                                    exact absurd H (by simp)
                          · rw [if_neg c54] at H
                            have c54b0 : decide (x25_5 < (y383.length : Int)) = false := decide_eq_false c54
                            clear c54
                            by_cases c83 : 0 ≤ x24_4
                            · rw [if_pos c83] at H
                              have c83b0 : decide (0 ≤ x24_4) = true := decide_eq_true c83
                              clear c83
                              by_cases c84 : x24_4 < (y383.length : Int)
                              · rw [if_pos c84] at H
                                have c84b0 : decide (x24_4 < (y383.length : Int)) = true := decide_eq_true c84
                                clear c84
                                replace H := Option.bind_eq_some_iff.mp H
                                obtain ⟨t390, A850, H⟩ := H
                                replace H : (if t390 = true then (calamuslaw01_FixedKnown.l1 k5 x13_6 x14_20 t377 t378 t379 t380 t381 t382 y383 (wrap64 (x24_4 + 1))) else (some false)) = some r := H
                                have A85 := Aside0.mk A850
                                clear A850
                                by_cases c86 : t390 = true
                                · subst c86
                                  have H1 : (calamuslaw01_FixedKnown.l1 k5 x13_6 x14_20 t377 t378 t379 t380 t381 t382 y383 (wrap64 (x24_4 + 1))) = some r := by rw [if_pos rfl] at H; exact H
                                  clear H
                                  have H := H1
                                  clear H1
                                  have H' := Aside0.mk H
                                  clear H
                                  have p389 : 0 ≤ (x24_4 : Int) := of_decide_eq_true (by first | (with_reducible assumption) | assumption)
                                  have q389 : x24_4 < (y383.length : Int) := of_decide_eq_true (by first | (with_reducible assumption) | assumption)
                                  obtain ⟨ad389, e389, hx389_0⟩ := Kd.at_int (Kd.R_reads' HO_23.out).2.2 x24_4 p389 q389
                                  cases e389
                                  replace p389 := eq_true p389
                                  replace q389 := eq_true q389
                                  go_wp2_with (first | ((with_reducible refine gate_callee (f := 12) rfl ?_); refine goesL_ (some 182) rfl rfl Tryz.func12 (by kernel_rfl) rfl #[.int .i64 (rd y383 x24_4)] rfl (by (try simp only [List.map_toArray, List.map_cons, List.map_nil]); first | done | rfl | (simp only [List.length_drop, List.length_take]; rfl)) ?_; (with_reducible refine (calamuslaw01_FixedPrints.calls k5 (rd y383 x24_4) true _ A85.out (HWF.out.below (by repeat (first | (with_reducible first | exact HB.out | apply below_alloc | apply pw_below_drewN | apply below_drew1) | exact HB.out)))).mono ?_); rintro e w87 ⟨rfl, hb⟩; refine ⟨_, rfl, ?_⟩; have n0_ := Aside0.mk (Kd.R_below (by (with_reducible repeat (first | apply Kd.R_alloc | apply Kd.R_drewN | apply Kd.R_drew)); exact HO_23.out) hb); have n1_ := Aside0.mk (below_step (by repeat (first | (with_reducible first | exact HB.out | apply below_alloc | apply pw_below_drewN | apply below_drew1) | exact HB.out)) hb); clear HO_23; clear HB; have HO_23 := n0_; have HB := n1_; clear n0_ n1_; (try clear hb); (try clear hb2); (try clear hk); (try clear hi)))
                                  go_roundg k5
                                  case measure => have := HJ6.out; have := HJ20.out; have := HK3.out; have := HK4.out; have := HK5.out; omega
                                  case rel => exact ⟨(wrap64 (x24_4 + 1)), (by first | rfl | (simp; done) | (simp [*]; done)), H', ⟨by have := HJ6.out; have := HJ20.out; have := HK3.out; have := HK4.out; have := HK5.out; omega⟩, ⟨by (with_reducible repeat (first | apply Kd.R_alloc | apply Kd.R_drewN | apply Kd.R_drew)); exact HO_23.out⟩, ⟨by repeat (first | (with_reducible first | exact HB.out | apply below_alloc | apply pw_below_drewN | apply below_drew1) | exact HB.out)⟩⟩
                                · replace c86 := Bool.eq_false_iff.mpr c86
                                  subst c86
                                  have H1 : (some false) = some r := by rw [if_neg (show ¬ (false = true) by decide)] at H; exact H
                                  clear H
                                  have H := H1
                                  clear H1
                                  obtain rfl := Option.some.inj H
                                  have p389 : 0 ≤ (x24_4 : Int) := of_decide_eq_true (by first | (with_reducible assumption) | assumption)
                                  have q389 : x24_4 < (y383.length : Int) := of_decide_eq_true (by first | (with_reducible assumption) | assumption)
                                  obtain ⟨ad389, e389, hx389_0⟩ := Kd.at_int (Kd.R_reads' HO_23.out).2.2 x24_4 p389 q389
                                  cases e389
                                  replace p389 := eq_true p389
                                  replace q389 := eq_true q389
                                  go_wp2_with (first | ((with_reducible refine gate_callee (f := 12) rfl ?_); refine goesL_ (some 182) rfl rfl Tryz.func12 (by kernel_rfl) rfl #[.int .i64 (rd y383 x24_4)] rfl (by (try simp only [List.map_toArray, List.map_cons, List.map_nil]); first | done | rfl | (simp only [List.length_drop, List.length_take]; rfl)) ?_; (with_reducible refine (calamuslaw01_FixedPrints.calls k5 (rd y383 x24_4) false _ A85.out (HWF.out.below (by repeat (first | (with_reducible first | exact HB.out | apply below_alloc | apply pw_below_drewN | apply below_drew1) | exact HB.out)))).mono ?_); rintro e w88 ⟨rfl, hb⟩; refine ⟨_, rfl, ?_⟩; have n0_ := Aside0.mk (Kd.R_below (by (with_reducible repeat (first | apply Kd.R_alloc | apply Kd.R_drewN | apply Kd.R_drew)); exact HO_23.out) hb); have n1_ := Aside0.mk (below_step (by repeat (first | (with_reducible first | exact HB.out | apply below_alloc | apply pw_below_drewN | apply below_drew1) | exact HB.out)) hb); clear HO_23; clear HB; have HO_23 := n0_; have HB := n1_; clear n0_ n1_; (try clear hb); (try clear hb2); (try clear hk); (try clear hi)))
                                  go_ret
                                  exact ⟨by first | rfl | (simp [errW_none, errW_some] <;> rfl) | (simp [*, errW_none, errW_some] <;> rfl), by repeat (first | (with_reducible first | exact HB.out | apply below_alloc | apply pw_below_drewN | apply below_drew1) | exact HB.out)⟩
                              · rw [if_neg c84] at H
                                exact absurd H (by simp)
                            · rw [if_neg c83] at H
                              exact absurd H (by simp)
                    · as_aux_lemma =>
                       rw [if_neg c52] at H
                       have c52b0 : decide (x24_4 < (y383.length : Int)) = false := decide_eq_false c52
                       clear c52
                       by_cases c89 : x13_6 = true
                       · subst c89
                         have H1 : (if x14_20 = true then (if t377 = (-1) then (if t378 = 0 then (if t379 = 0 then (if t380 = 0 then (if t381 = 1 then (if t382 = 0 then ((calamuslaw01_FixedNear.f k4 7 3 (-2)).bind fun t386 => (if t386 = true then ((calamuslaw01_FixedNear.f k4 (-7) 3 2).bind fun t387 => (if t387 = true then ((calamuslaw01_works.f k4).bind fun t388 => (some t388)) else (some false))) else (some false))) else (some false)) else (some false)) else (some false)) else (some false)) else (some false)) else (some false)) else (some false)) = some r := by rw [if_pos rfl] at H; exact H
                         clear H
                         have H := H1
                         clear H1
                         by_cases c90 : x14_20 = true
                         · subst c90
                           have H1 : (if t377 = (-1) then (if t378 = 0 then (if t379 = 0 then (if t380 = 0 then (if t381 = 1 then (if t382 = 0 then ((calamuslaw01_FixedNear.f k4 7 3 (-2)).bind fun t386 => (if t386 = true then ((calamuslaw01_FixedNear.f k4 (-7) 3 2).bind fun t387 => (if t387 = true then ((calamuslaw01_works.f k4).bind fun t388 => (some t388)) else (some false))) else (some false))) else (some false)) else (some false)) else (some false)) else (some false)) else (some false)) else (some false)) = some r := by rw [if_pos rfl] at H; exact H
                           clear H
                           have H := H1
                           clear H1
                           by_cases c91 : t377 = (-1)
                           · rw [if_pos c91] at H
                             have c91b0 : (t377 == (-1)) = true := beq_iff_eq.mpr c91
                             have c91b1 : (t377 != (-1)) = false := bne_eq_false_iff_eq.mpr c91
                             clear c91
                             by_cases c92 : t378 = 0
                             · rw [if_pos c92] at H
                               have c92b0 : (t378 == 0) = true := beq_iff_eq.mpr c92
                               have c92b1 : (t378 != 0) = false := bne_eq_false_iff_eq.mpr c92
                               clear c92
                               by_cases c93 : t379 = 0
                               · rw [if_pos c93] at H
                                 have c93b0 : (t379 == 0) = true := beq_iff_eq.mpr c93
                                 have c93b1 : (t379 != 0) = false := bne_eq_false_iff_eq.mpr c93
                                 clear c93
                                 by_cases c94 : t380 = 0
                                 · rw [if_pos c94] at H
                                   have c94b0 : (t380 == 0) = true := beq_iff_eq.mpr c94
                                   have c94b1 : (t380 != 0) = false := bne_eq_false_iff_eq.mpr c94
                                   clear c94
                                   by_cases c95 : t381 = 1
                                   · rw [if_pos c95] at H
                                     have c95b0 : (t381 == 1) = true := beq_iff_eq.mpr c95
                                     have c95b1 : (t381 != 1) = false := bne_eq_false_iff_eq.mpr c95
                                     clear c95
                                     by_cases c96 : t382 = 0
                                     · rw [if_pos c96] at H
                                       have c96b0 : (t382 == 0) = true := beq_iff_eq.mpr c96
                                       have c96b1 : (t382 != 0) = false := bne_eq_false_iff_eq.mpr c96
                                       clear c96
                                       replace H := Option.bind_eq_some_iff.mp H
                                       obtain ⟨t386, A970, H⟩ := H
                                       replace H : (if t386 = true then ((calamuslaw01_FixedNear.f k4 (-7) 3 2).bind fun t387 => (if t387 = true then ((calamuslaw01_works.f k4).bind fun t388 => (some t388)) else (some false))) else (some false)) = some r := H
                                       have A97 := Aside0.mk A970
                                       clear A970
                                       by_cases c98 : t386 = true
                                       · subst c98
                                         have H1 : ((calamuslaw01_FixedNear.f k4 (-7) 3 2).bind fun t387 => (if t387 = true then ((calamuslaw01_works.f k4).bind fun t388 => (some t388)) else (some false))) = some r := by rw [if_pos rfl] at H; exact H
                                         clear H
                                         have H := H1
                                         clear H1
                                         replace H := Option.bind_eq_some_iff.mp H
                                         obtain ⟨t387, A990, H⟩ := H
                                         replace H : (if t387 = true then ((calamuslaw01_works.f k4).bind fun t388 => (some t388)) else (some false)) = some r := H
                                         have A99 := Aside0.mk A990
                                         clear A990
                                         by_cases c100 : t387 = true
                                         · subst c100
                                           have H1 : ((calamuslaw01_works.f k4).bind fun t388 => (some t388)) = some r := by rw [if_pos rfl] at H; exact H
                                           clear H
                                           have H := H1
                                           clear H1
                                           replace H := Option.bind_eq_some_iff.mp H
                                           obtain ⟨t388, A1010, H⟩ := H
                                           replace H : (some t388) = some r := H
                                           have A101 := Aside0.mk A1010
                                           clear A1010
                                           obtain rfl := Option.some.inj H
                                           obtain ⟨Ao102, co102, eo102⟩ := Kd.R_slice HO_23.out
                                           subst eo102
                                           go_wp2_with (first | (go_at_call 13; (with_reducible refine (calamuslaw01_FixedNear.calls k4 7 3 (-2) true _ A97.out (HWF.out.below (by repeat (first | (with_reducible first | exact HB.out | apply below_alloc | apply pw_below_drewN | apply below_drew1) | exact HB.out)))).mono ?_); rintro e w103 ⟨rfl, hb⟩; have n0_ := Aside0.mk (Kd.R_below (by (with_reducible repeat (first | apply Kd.R_alloc | apply Kd.R_drewN | apply Kd.R_drew)); exact HO_23.out) hb); have n1_ := Aside0.mk (below_step (by repeat (first | (with_reducible first | exact HB.out | apply below_alloc | apply pw_below_drewN | apply below_drew1) | exact HB.out)) hb); clear HO_23; clear HB; have HO_23 := n0_; have HB := n1_; clear n0_ n1_; (try clear hb); (try clear hb2); (try clear hk); (try clear hi)) | (go_at_call 13; (with_reducible refine (calamuslaw01_FixedNear.calls k4 (-7) 3 2 true _ A99.out (HWF.out.below (by repeat (first | (with_reducible first | exact HB.out | apply below_alloc | apply pw_below_drewN | apply below_drew1) | exact HB.out)))).mono ?_); rintro e w104 ⟨rfl, hb⟩; have n0_ := Aside0.mk (Kd.R_below (by (with_reducible repeat (first | apply Kd.R_alloc | apply Kd.R_drewN | apply Kd.R_drew)); exact HO_23.out) hb); have n1_ := Aside0.mk (below_step (by repeat (first | (with_reducible first | exact HB.out | apply below_alloc | apply pw_below_drewN | apply below_drew1) | exact HB.out)) hb); clear HO_23; clear HB; have HO_23 := n0_; have HB := n1_; clear n0_ n1_; (try clear hb); (try clear hb2); (try clear hk); (try clear hi)) | (go_at_call 14; (with_reducible refine (calamuslaw01_works.calls k4  t388 _ A101.out (HWF.out.below (by repeat (first | (with_reducible first | exact HB.out | apply below_alloc | apply pw_below_drewN | apply below_drew1) | exact HB.out)))).mono ?_); rintro e w105 ⟨rfl, hb⟩; have n0_ := Aside0.mk (Kd.R_below (by (with_reducible repeat (first | apply Kd.R_alloc | apply Kd.R_drewN | apply Kd.R_drew)); exact HO_23.out) hb); have n1_ := Aside0.mk (below_step (by repeat (first | (with_reducible first | exact HB.out | apply below_alloc | apply pw_below_drewN | apply below_drew1) | exact HB.out)) hb); clear HO_23; clear HB; have HO_23 := n0_; have HB := n1_; clear n0_ n1_; (try clear hb); (try clear hb2); (try clear hk); (try clear hi)))
                                           go_ret
                                           exact ⟨by first | rfl | (simp [errW_none, errW_some] <;> rfl) | (simp [*, errW_none, errW_some] <;> rfl), by repeat (first | (with_reducible first | exact HB.out | apply below_alloc | apply pw_below_drewN | apply below_drew1) | exact HB.out)⟩
                                         · replace c100 := Bool.eq_false_iff.mpr c100
                                           subst c100
                                           have H1 : (some false) = some r := by rw [if_neg (show ¬ (false = true) by decide)] at H; exact H
                                           clear H
                                           have H := H1
                                           clear H1
                                           obtain rfl := Option.some.inj H
                                           obtain ⟨Ao106, co106, eo106⟩ := Kd.R_slice HO_23.out
                                           subst eo106
                                           go_wp2_with (first | (go_at_call 13; (with_reducible refine (calamuslaw01_FixedNear.calls k4 7 3 (-2) true _ A97.out (HWF.out.below (by repeat (first | (with_reducible first | exact HB.out | apply below_alloc | apply pw_below_drewN | apply below_drew1) | exact HB.out)))).mono ?_); rintro e w107 ⟨rfl, hb⟩; have n0_ := Aside0.mk (Kd.R_below (by (with_reducible repeat (first | apply Kd.R_alloc | apply Kd.R_drewN | apply Kd.R_drew)); exact HO_23.out) hb); have n1_ := Aside0.mk (below_step (by repeat (first | (with_reducible first | exact HB.out | apply below_alloc | apply pw_below_drewN | apply below_drew1) | exact HB.out)) hb); clear HO_23; clear HB; have HO_23 := n0_; have HB := n1_; clear n0_ n1_; (try clear hb); (try clear hb2); (try clear hk); (try clear hi)) | (go_at_call 13; (with_reducible refine (calamuslaw01_FixedNear.calls k4 (-7) 3 2 false _ A99.out (HWF.out.below (by repeat (first | (with_reducible first | exact HB.out | apply below_alloc | apply pw_below_drewN | apply below_drew1) | exact HB.out)))).mono ?_); rintro e w108 ⟨rfl, hb⟩; have n0_ := Aside0.mk (Kd.R_below (by (with_reducible repeat (first | apply Kd.R_alloc | apply Kd.R_drewN | apply Kd.R_drew)); exact HO_23.out) hb); have n1_ := Aside0.mk (below_step (by repeat (first | (with_reducible first | exact HB.out | apply below_alloc | apply pw_below_drewN | apply below_drew1) | exact HB.out)) hb); clear HO_23; clear HB; have HO_23 := n0_; have HB := n1_; clear n0_ n1_; (try clear hb); (try clear hb2); (try clear hk); (try clear hi)))
                                           go_ret
                                           exact ⟨by first | rfl | (simp [errW_none, errW_some] <;> rfl) | (simp [*, errW_none, errW_some] <;> rfl), by repeat (first | (with_reducible first | exact HB.out | apply below_alloc | apply pw_below_drewN | apply below_drew1) | exact HB.out)⟩
                                       · replace c98 := Bool.eq_false_iff.mpr c98
                                         subst c98
                                         have H1 : (some false) = some r := by rw [if_neg (show ¬ (false = true) by decide)] at H; exact H
                                         clear H
                                         have H := H1
                                         clear H1
                                         obtain rfl := Option.some.inj H
                                         obtain ⟨Ao109, co109, eo109⟩ := Kd.R_slice HO_23.out
                                         subst eo109
                                         go_wp2_with (first | (go_at_call 13; (with_reducible refine (calamuslaw01_FixedNear.calls k4 7 3 (-2) false _ A97.out (HWF.out.below (by repeat (first | (with_reducible first | exact HB.out | apply below_alloc | apply pw_below_drewN | apply below_drew1) | exact HB.out)))).mono ?_); rintro e w110 ⟨rfl, hb⟩; have n0_ := Aside0.mk (Kd.R_below (by (with_reducible repeat (first | apply Kd.R_alloc | apply Kd.R_drewN | apply Kd.R_drew)); exact HO_23.out) hb); have n1_ := Aside0.mk (below_step (by repeat (first | (with_reducible first | exact HB.out | apply below_alloc | apply pw_below_drewN | apply below_drew1) | exact HB.out)) hb); clear HO_23; clear HB; have HO_23 := n0_; have HB := n1_; clear n0_ n1_; (try clear hb); (try clear hb2); (try clear hk); (try clear hi)))
                                         go_ret
                                         exact ⟨by first | rfl | (simp [errW_none, errW_some] <;> rfl) | (simp [*, errW_none, errW_some] <;> rfl), by repeat (first | (with_reducible first | exact HB.out | apply below_alloc | apply pw_below_drewN | apply below_drew1) | exact HB.out)⟩
                                     · rw [if_neg c96] at H
                                       have c96b0 : (t382 == 0) = false := beq_eq_false_iff_ne.mpr c96
                                       have c96b1 : (t382 != 0) = true := bne_iff_ne.mpr c96
                                       obtain rfl := Option.some.inj H
                                       obtain ⟨Ao111, co111, eo111⟩ := Kd.R_slice HO_23.out
                                       subst eo111
                                       go_wp2
                                       go_ret
                                       exact ⟨by first | rfl | (simp [errW_none, errW_some] <;> rfl) | (simp [*, errW_none, errW_some] <;> rfl), by repeat (first | (with_reducible first | exact HB.out | apply below_alloc | apply pw_below_drewN | apply below_drew1) | exact HB.out)⟩
                                   · rw [if_neg c95] at H
                                     have c95b0 : (t381 == 1) = false := beq_eq_false_iff_ne.mpr c95
                                     have c95b1 : (t381 != 1) = true := bne_iff_ne.mpr c95
                                     obtain rfl := Option.some.inj H
                                     obtain ⟨Ao112, co112, eo112⟩ := Kd.R_slice HO_23.out
                                     subst eo112
                                     go_wp2
                                     go_ret
                                     exact ⟨by first | rfl | (simp [errW_none, errW_some] <;> rfl) | (simp [*, errW_none, errW_some] <;> rfl), by repeat (first | (with_reducible first | exact HB.out | apply below_alloc | apply pw_below_drewN | apply below_drew1) | exact HB.out)⟩
                                 · rw [if_neg c94] at H
                                   have c94b0 : (t380 == 0) = false := beq_eq_false_iff_ne.mpr c94
                                   have c94b1 : (t380 != 0) = true := bne_iff_ne.mpr c94
                                   obtain rfl := Option.some.inj H
                                   obtain ⟨Ao113, co113, eo113⟩ := Kd.R_slice HO_23.out
                                   subst eo113
                                   go_wp2
                                   go_ret
                                   exact ⟨by first | rfl | (simp [errW_none, errW_some] <;> rfl) | (simp [*, errW_none, errW_some] <;> rfl), by repeat (first | (with_reducible first | exact HB.out | apply below_alloc | apply pw_below_drewN | apply below_drew1) | exact HB.out)⟩
                               · rw [if_neg c93] at H
                                 have c93b0 : (t379 == 0) = false := beq_eq_false_iff_ne.mpr c93
                                 have c93b1 : (t379 != 0) = true := bne_iff_ne.mpr c93
                                 obtain rfl := Option.some.inj H
                                 obtain ⟨Ao114, co114, eo114⟩ := Kd.R_slice HO_23.out
                                 subst eo114
                                 go_wp2
                                 go_ret
                                 exact ⟨by first | rfl | (simp [errW_none, errW_some] <;> rfl) | (simp [*, errW_none, errW_some] <;> rfl), by repeat (first | (with_reducible first | exact HB.out | apply below_alloc | apply pw_below_drewN | apply below_drew1) | exact HB.out)⟩
                             · rw [if_neg c92] at H
                               have c92b0 : (t378 == 0) = false := beq_eq_false_iff_ne.mpr c92
                               have c92b1 : (t378 != 0) = true := bne_iff_ne.mpr c92
                               obtain rfl := Option.some.inj H
                               obtain ⟨Ao115, co115, eo115⟩ := Kd.R_slice HO_23.out
                               subst eo115
                               go_wp2
                               go_ret
                               exact ⟨by first | rfl | (simp [errW_none, errW_some] <;> rfl) | (simp [*, errW_none, errW_some] <;> rfl), by repeat (first | (with_reducible first | exact HB.out | apply below_alloc | apply pw_below_drewN | apply below_drew1) | exact HB.out)⟩
                           · rw [if_neg c91] at H
                             have c91b0 : (t377 == (-1)) = false := beq_eq_false_iff_ne.mpr c91
                             have c91b1 : (t377 != (-1)) = true := bne_iff_ne.mpr c91
                             obtain rfl := Option.some.inj H
                             obtain ⟨Ao116, co116, eo116⟩ := Kd.R_slice HO_23.out
                             subst eo116
                             go_wp2
                             go_ret
                             exact ⟨by first | rfl | (simp [errW_none, errW_some] <;> rfl) | (simp [*, errW_none, errW_some] <;> rfl), by repeat (first | (with_reducible first | exact HB.out | apply below_alloc | apply pw_below_drewN | apply below_drew1) | exact HB.out)⟩
                         · replace c90 := Bool.eq_false_iff.mpr c90
                           subst c90
                           have H1 : (some false) = some r := by rw [if_neg (show ¬ (false = true) by decide)] at H; exact H
                           clear H
                           have H := H1
                           clear H1
                           obtain rfl := Option.some.inj H
                           obtain ⟨Ao117, co117, eo117⟩ := Kd.R_slice HO_23.out
                           subst eo117
                           go_wp2
                           go_ret
                           exact ⟨by first | rfl | (simp [errW_none, errW_some] <;> rfl) | (simp [*, errW_none, errW_some] <;> rfl), by repeat (first | (with_reducible first | exact HB.out | apply below_alloc | apply pw_below_drewN | apply below_drew1) | exact HB.out)⟩
                       · replace c89 := Bool.eq_false_iff.mpr c89
                         subst c89
                         have H1 : (some false) = some r := by rw [if_neg (show ¬ (false = true) by decide)] at H; exact H
                         clear H
                         have H := H1
                         clear H1
                         obtain rfl := Option.some.inj H
                         obtain ⟨Ao118, co118, eo118⟩ := Kd.R_slice HO_23.out
                         subst eo118
                         go_wp2
                         go_ret
                         exact ⟨by first | rfl | (simp [errW_none, errW_some] <;> rfl) | (simp [*, errW_none, errW_some] <;> rfl), by repeat (first | (with_reducible first | exact HB.out | apply below_alloc | apply pw_below_drewN | apply below_drew1) | exact HB.out)⟩


end Go.Proofs.YtfhadnhpognefaaGreatDoor.PRef
