/- Any text is read as the document says, and noughts change nothing: the program's law on it returns true. -/
import Derived.Test.YtfhadnhpognefaaGreatDoorFxNoughts
import Derived.Test.YtfhadnhpognefaaGreatDoorPReads
namespace Go.Proofs.YtfhadnhpognefaaGreatDoor.Fx
open Go Go.RowKit Go.Proofs.YtfhadnhpognefaaGreatDoorW.PrintWords Go.Proofs.YtfhadnhpognefaaGreatDoorW.PrintLast Go.Proofs.YtfhadnhpognefaaGreatDoorW.PrintMore Go.Proofs.YtfhadnhpognefaaGreatDoor.PRef

theorem rightOf_cases (s : List UInt8) : (∃ a b c, rightOf s = (a, b, c, false)) ∨ (goodText s = true ∧ rightOf s = (negOf s, dv (wholeOf s ++ partOf s), ((partOf s).length : Int), true)) := by
  unfold rightOf
  by_cases hs : s.length ≤ 40
  · rw [if_pos hs]
    by_cases hw : (wholeOf s).all isDig = true
    · rw [if_pos hw]
      rcases hp : (cutAt 46 (restOf s)).2 with _ | p
      · have hpt : pointOf s = false := by unfold pointOf; rw [hp]; rfl
        have hpa : partOf s = [] := by unfold partOf; rw [hp]; rfl
        have hgt : goodText s = !(wholeOf s).isEmpty := by unfold goodText allDig; rw [hpt, hw]; simp [hs]
        simp only
        cases he : (wholeOf s).isEmpty with
        | true => exact Or.inl ⟨_, _, _, rfl⟩
        | false =>
          rw [he] at hgt
          rw [hpa, List.append_nil]
          exact Or.inr ⟨hgt, rfl⟩
      · have hpt : pointOf s = true := by unfold pointOf; rw [hp]; rfl
        have hpa : partOf s = p := by unfold partOf; rw [hp]; rfl
        simp only
        by_cases hq : wholeOf s ≠ [] ∧ p.all isDig = true
        · rw [if_pos hq]
          have hne : (wholeOf s).isEmpty = false := by simpa using hq.1
          have hgt : goodText s = !p.isEmpty := by unfold goodText allDig; rw [hpt, hw, hpa, hq.2, hne]; simp [hs]
          cases he : p.isEmpty with
          | true => exact Or.inl ⟨_, _, _, rfl⟩
          | false =>
            rw [he] at hgt
            rw [hpa, ← dv_append]
            exact Or.inr ⟨hgt, rfl⟩
        · rw [if_neg hq]
          exact Or.inl ⟨_, _, _, rfl⟩
    · rw [if_neg hw]
      exact Or.inl ⟨_, _, _, rfl⟩
  · rw [if_neg hs]
    exact Or.inl ⟨_, _, _, rfl⟩
theorem oh_succ (m : Nat) : oh (m + 1) = 48 :: oh m := rfl
theorem works_ev {r : Bool} (h : r = true) : Ev (fun k => (calamuslaw01_works.f k).bind fun t => some t) r := by
  rw [h]
  exact ⟨0, fun k _ => rfl⟩
theorem one48 : (⟨#[48]⟩ : ByteArray) = tx [48] := rfl
theorem one46 : (⟨#[46]⟩ : ByteArray) = tx [46] := rfl
theorem l2_ev (x1 a e : Int) (n : Nat) (hn : Int.tmod x1 8 = n) (h8 : n ≤ 7) (m : Nat) : ∀ (i : Nat) (l : List UInt8), i + m = n → l.length + m ≤ 1000 → read (l ++ oh m) = (a, e) →
    Ev (fun k => calamuslaw01_FixedReads.l2 k x1 a e (tx l) (i : Int)) true := by
  induction m with
  | zero =>
    intro i l hi hl hr
    have e0 : l ++ oh 0 = l := by show l ++ [] = l; simp
    rw [e0] at hr
    refine Ev.step (f := fun k => (calamuslaw01_works.f k).bind fun t => some t) (fun k => ?_) (works_ev rfl)
    simp only [calamuslaw01_FixedReads.l2]
    rw [if_neg (by rw [hn]; omega)]
    have : fixed_Read.f k (tx l) = some (a, e) := by
      unfold fixed_Read.f
      rw [if_pos (by rw [tx_size]; omega), tx_data, hr]
    rw [this, Option.bind_some, if_pos rfl, if_pos rfl]
  | succ m ih =>
    intro i l hi hl hr
    refine Ev.step (fun k => ?_) (ih (i + 1) (l ++ [48]) (by omega) (by rw [List.length_append, List.length_singleton]; omega) (by rw [List.append_assoc]; exact hr))
    simp only [calamuslaw01_FixedReads.l2]
    rw [if_pos (by rw [hn]; omega), if_pos (by rw [tx_size]; omega), one48, tx_append]
    congr 1
    omega
theorem l0_ev (x1 a e b : Int) (ds : List Int) (n : Nat) (hn : Int.tmod x1 8 = n) (h8 : n ≤ 7) (r : Bool) (m : Nat) : ∀ (i : Nat) (l : List UInt8), i + m = n → l.length + m ≤ 1000 →
    Ev (fun k => calamuslaw01_FixedReads.l1 k x1 a e ds b (tx (l ++ oh m)) 0) r →
    Ev (fun k => calamuslaw01_FixedReads.l0 k x1 a e ds b (tx l) (i : Int)) r := by
  induction m with
  | zero =>
    intro i l hi hl hr
    have e0 : l ++ oh 0 = l := by show l ++ [] = l; simp
    rw [e0] at hr
    refine Ev.step (fun k => ?_) hr
    simp only [calamuslaw01_FixedReads.l0]
    rw [if_neg (by rw [hn]; omega)]
  | succ m ih =>
    intro i l hi hl hr
    refine Ev.step (fun k => ?_) (ih (i + 1) (l ++ [48]) (by omega) (by rw [List.length_append, List.length_singleton]; omega) (by rw [List.append_assoc]; exact hr))
    simp only [calamuslaw01_FixedReads.l0]
    rw [if_pos (by rw [hn]; omega), if_pos (by rw [tx_size]; omega), one48, tx_append]
    congr 1
    omega
/-- What the digits become, with the point ahead of digit wl. -/
def ren (wl : Nat) : Nat → List UInt8 → List UInt8
  | _, [] => []
  | j, c :: t => (if j = wl then [46, c] else [c]) ++ ren wl (j + 1) t
theorem ren_cons (wl j : Nat) (c : UInt8) (t : List UInt8) : ren wl j (c :: t) = (if j = wl then [46, c] else [c]) ++ ren wl (j + 1) t := rfl
theorem ren_nil (wl j : Nat) : ren wl j [] = [] := rfl
theorem ren_far (wl : Nat) : ∀ (l : List UInt8) (j : Nat), wl < j → ren wl j l = l
  | [], _, _ => rfl
  | c :: t, j, h => by
    unfold ren
    rw [if_neg (by omega), ren_far wl t (j + 1) (by omega)]; rfl
theorem ren_at (wl : Nat) (p : List UInt8) : ren wl wl p = tail' p := by
  cases p with
  | nil => rfl
  | cons c t =>
    unfold ren tail'
    rw [if_pos rfl, if_neg (by simp), ren_far _ _ _ (by omega)]; rfl
theorem ren_whole (wl : Nat) (p : List UInt8) : ∀ (w : List UInt8) (j : Nat), j + w.length = wl → ren wl j (w ++ p) = w ++ tail' p
  | [], j, h => by
    obtain rfl : j = wl := by simpa using h
    exact ren_at _ _
  | c :: t, j, h => by
    rw [List.length_cons] at h
    rw [List.cons_append]
    unfold ren
    rw [if_neg (by omega), ren_whole wl p t (j + 1) (by omega)]; rfl
theorem ren_len (wl : Nat) : ∀ (l : List UInt8) (j : Nat), (ren wl j l).length ≤ 2 * l.length
  | [], _ => by simp [ren]
  | c :: t, j => by
    have := ren_len wl t (j + 1)
    unfold ren
    split <;> simp <;> omega
theorem ten_int {d : Nat} {c : UInt8} (h : d ≤ 9) (hc : UInt8.ofNat (48 + d) = c) : ((⟨#[48, 49, 50, 51, 52, 53, 54, 55, 56, 57]⟩ : ByteArray).extract ((d : Int)).toNat (((d + 1 : Nat) : Int)).toNat) = tx [c] := by
  rw [← hc]
  exact ten_one d (by omega)
theorem nine_ten {d : Nat} (h : d ≤ 9) : ((d + 1 : Nat) : Int) ≤ 10 := by omega
theorem size_ok1 {l : List UInt8} {m : Nat} (h : l.length + 2 * m ≤ 1000) : (tx l).size + 1 ≤ 9223372036854775807 := by rw [tx_size]; omega
theorem size_ok2 {l : List UInt8} {m : Nat} {c : UInt8} (h : l.length + 2 * m ≤ 1000) : (tx l).size + (tx [c]).size ≤ 9223372036854775807 := by rw [tx_size, tx_size]; simp; omega
theorem size_ok3 {l : List UInt8} {m : Nat} {c : UInt8} (h : l.length + 2 * m ≤ 1000) : (tx (l ++ [46])).size + (tx [c]).size ≤ 9223372036854775807 := by rw [tx_size, tx_size]; simp; omega
theorem at_eq {j n : Nat} (h : j = n) : (j : Int) = (n : Int) := by rw [h]
theorem at_ne {j n : Nat} (h : ¬ j = n) : ¬ (j : Int) = (n : Int) := by omega
theorem len_a {l : List UInt8} {m : Nat} {c : UInt8} (h : l.length + 2 * (m + 1) ≤ 1000) : (l ++ [46, c]).length + 2 * m ≤ 1000 := by simp; omega
theorem len_b {l : List UInt8} {m : Nat} {c : UInt8} (h : l.length + 2 * (m + 1) ≤ 1000) : (l ++ [c]).length + 2 * m ≤ 1000 := by simp; omega
theorem add_s' {j m n : Nat} (h : j + (m + 1) = n) : j + 1 + m = n := by omega
theorem l1_ev (x1 a e : Int) (D : List UInt8) (hD : D.all isDig = true) (hDl : D.length ≤ 40) (pl : Nat) (hp : pl ≤ D.length) (n : Nat) (hn : Int.tmod x1 8 = n) (r : Bool) (m : Nat) : ∀ (j : Nat) (l : List UInt8), j + m = D.length → l.length + 2 * m ≤ 1000 →
    Ev (fun k => calamuslaw01_FixedReads.j5 k x1 a e (tx (l ++ ren (D.length - pl) j (D.drop j))) (decide (pl = 0 ∧ 0 < n))) r →
    Ev (fun k => calamuslaw01_FixedReads.l1 k x1 a e (dv D) (pl : Int) (tx l) (j : Int)) r := by
  have hwl : wrap64 (((dv D).length : Int) - (pl : Int)) = ((D.length - pl : Nat) : Int) := by rw [dv_length, w64 (by omega) (by omega)]; omega
  induction m with
  | zero =>
    intro j l hj hl hr
    have e0 : D.drop j = [] := by rw [List.drop_eq_nil_iff]; omega
    rw [e0, ren_nil, List.append_nil] at hr
    refine Ev.step (fun k => ?_) hr
    simp only [calamuslaw01_FixedReads.l1]
    rw [if_neg (by rw [dv_length]; omega)]
    by_cases h0 : pl = 0
    · rw [if_pos (by omega)]
      congr 1
      rw [hn]
      by_cases hn0 : 0 < n
      · rw [decide_eq_true (by omega), decide_eq_true ⟨h0, hn0⟩]
      · rw [decide_eq_false (by omega), decide_eq_false (by omega)]
    · rw [if_neg (by omega), decide_eq_false (fun h => h0 h.1)]
  | succ m ih =>
    intro j l hj hl hr
    have hlt : j < D.length := by omega
    have e0 : D.drop j = D[j] :: D.drop (j + 1) := List.drop_eq_getElem_cons hlt
    rw [e0] at hr
    have h1 := List.all_eq_true.1 hD _ (List.getElem_mem hlt)
    have hrd : rd (dv D) (j : Int) = (((D[j]'hlt).toNat - 48 : Nat) : Int) := by simp [rd, dv, hlt]
    generalize D[j]'hlt = c at *
    have hcr : 48 ≤ c.toNat ∧ c.toNat ≤ 57 := by unfold isDig at h1; simpa using h1
    obtain ⟨d, hd⟩ : ∃ d : Nat, d = c.toNat - 48 := ⟨_, rfl⟩
    have hd9 : d ≤ 9 := by omega
    have hcd : UInt8.ofNat (48 + d) = c := by rw [hd, show 48 + (c.toNat - 48) = c.toNat by omega]; simp
    rw [← hd] at hrd
    have hw1 : wrap64 ((d : Int) + 1) = ((d + 1 : Nat) : Int) := by rw [w64 (by omega) (by omega)]; omega
    have hw2 : wrap64 ((j : Int) + 1) = ((j + 1 : Nat) : Int) := by rw [w64 (by omega) (by omega)]; omega
    have hten : ((⟨#[48, 49, 50, 51, 52, 53, 54, 55, 56, 57]⟩ : ByteArray).extract ((d : Int)).toNat (((d + 1 : Nat) : Int)).toNat) = tx [c] := ten_int hd9 hcd
    rw [ren_cons] at hr
    have f1 : (j : Int) < ((dv D).length : Int) := by rw [dv_length]; exact Int.ofNat_lt.2 hlt
    have f2 : 0 ≤ (j : Int) := Int.natCast_nonneg j
    have f3 : 0 ≤ (d : Int) := Int.natCast_nonneg d
    have f4 : (d : Int) ≤ ((d + 1 : Nat) : Int) := Int.ofNat_le.2 (Nat.le_succ d)
    have f5 := nine_ten hd9
    by_cases hjw : j = D.length - pl
    · rw [if_pos hjw] at hr
      refine Ev.step (fun k => ?_) (ih (j + 1) (l ++ [46, c]) (add_s' hj) (len_a hl) (by rw [List.append_assoc]; exact hr))
      simp only [calamuslaw01_FixedReads.l1, hrd, hw1, hw2, hwl, hten]
      rw [if_pos f1, if_pos (at_eq hjw), if_pos (size_ok1 hl), if_pos f2, if_pos f3, if_pos f4, if_pos f5, one46, tx_append, if_pos (size_ok3 hl), tx_append, List.append_assoc, List.cons_append, List.nil_append]
    · rw [if_neg hjw] at hr
      refine Ev.step (fun k => ?_) (ih (j + 1) (l ++ [c]) (add_s' hj) (len_b hl) (by rw [List.append_assoc]; exact hr))
      simp only [calamuslaw01_FixedReads.l1, hrd, hw1, hw2, hwl, hten]
      rw [if_pos f1, if_neg (at_ne hjw), if_pos f2, if_pos f3, if_pos f4, if_pos f5, if_pos (size_ok2 hl), tx_append]
theorem j5_ev (x1 a e : Int) (n : Nat) (hn : Int.tmod x1 8 = n) (h8 : n ≤ 7) (l : List UInt8) (hl : l.length ≤ 900) (c : Bool) (h : read (l ++ (if c = true then [46] else []) ++ oh n) = (a, e)) :
    Ev (fun k => calamuslaw01_FixedReads.j5 k x1 a e (tx l) c) true := by
  have go : ∀ t : List UInt8, t.length ≤ 950 → read (t ++ oh n) = (a, e) → Ev (fun k => calamuslaw01_FixedReads.j6 k x1 a e (tx t)) true := fun t ht hr => by
    have := l2_ev x1 a e n hn h8 n 0 t (by omega) (by omega) hr
    exact Ev.step (fun k => by simp only [calamuslaw01_FixedReads.j6]; rfl) this
  cases c with
  | true =>
    refine Ev.step (fun k => ?_) (go (l ++ [46]) (by simp; omega) h)
    simp only [calamuslaw01_FixedReads.j5]
    rw [if_pos trivial, if_pos (by rw [tx_size]; omega), one46, tx_append]
  | false =>
    rw [if_neg (by simp), List.append_nil] at h
    refine Ev.step (fun k => ?_) (go l (by omega) h)
    simp only [calamuslaw01_FixedReads.j5]
    rw [if_neg (by simp)]
theorem j1_ev (s : List UInt8) (x1 : Int) (n : Nat) (hn : Int.tmod x1 8 = n) (h8 : n ≤ 7) (hg : goodText s = true) (hl : (wholeOf s ++ partOf s).length + 2 * n ≤ 36) :
    Ev (fun k => calamuslaw01_FixedReads.j1 k x1 (read s).1 (read s).2 (negOf s) (dv (wholeOf s ++ partOf s)) ((partOf s).length : Int) false) true := by
  obtain ⟨hw, hne, hp, _⟩ := good_parts hg
  have hall : (wholeOf s ++ partOf s).all isDig = true := by rw [List.all_append, hw, hp]; rfl
  have hsg : ∀ sg : List UInt8, sg = (if negOf s = true then [45] else []) → Ev (fun k => calamuslaw01_FixedReads.j2 k x1 (read s).1 (read s).2 (dv (wholeOf s ++ partOf s)) ((partOf s).length : Int) (tx sg)) true := fun sg hs => by
    have hsl : sg.length ≤ 1 := by rw [hs]; split <;> simp
    have hN := read_nought hg n hl
    unfold nought at hN
    rw [← hs] at hN
    have key : Ev (fun k => calamuslaw01_FixedReads.j5 k x1 (read s).1 (read s).2 (tx ((sg ++ oh n) ++ ren ((wholeOf s ++ partOf s).length - (partOf s).length) 0 ((wholeOf s ++ partOf s).drop 0))) (decide ((partOf s).length = 0 ∧ 0 < n))) true := by
      have hrl := ren_len ((wholeOf s ++ partOf s).length - (partOf s).length) ((wholeOf s ++ partOf s).drop 0) 0
      refine j5_ev x1 _ _ n hn h8 _ (by rw [List.length_append, List.length_append, oh_len]; rw [List.drop_zero] at hrl ⊢; omega) _ ?_
      rw [List.drop_zero, ren_whole _ _ _ _ (by rw [List.length_append]; omega)]
      refine Eq.trans ?_ hN
      congr 1
      simp only [List.append_assoc]
      congr 3
      by_cases hp0 : partOf s = []
      · rw [hp0]
        by_cases h0 : 0 < n
        · rw [decide_eq_true ⟨by simp, h0⟩, if_pos rfl]
          unfold tail'
          rw [if_pos rfl, if_neg (by
            obtain ⟨k, rfl⟩ : ∃ k, n = k + 1 := ⟨n - 1, by omega⟩
            rw [oh_succ]; simp)]
          rfl
        · obtain rfl : n = 0 := by omega
          rw [decide_eq_false (by omega)]
          rfl
      · have hl0 : ¬ (partOf s).length = 0 := fun h => hp0 (List.eq_nil_of_length_eq_zero h)
        have hpn : partOf s ++ oh n ≠ [] := fun h => hp0 (List.append_eq_nil_iff.1 h).1
        rw [decide_eq_false (fun h => hl0 h.1)]
        unfold tail'
        rw [if_neg hp0, if_neg hpn]
        rfl
    have h1 := l1_ev x1 (read s).1 (read s).2 (wholeOf s ++ partOf s) hall (by omega) (partOf s).length (by rw [List.length_append]; omega) n hn true (wholeOf s ++ partOf s).length 0 (sg ++ oh n) (by omega) (by rw [List.length_append, oh_len]; omega) key
    have h0 := l0_ev x1 (read s).1 (read s).2 ((partOf s).length : Int) (dv (wholeOf s ++ partOf s)) n hn h8 true n 0 sg (by omega) (by omega) h1
    exact Ev.step (fun k => by simp only [calamuslaw01_FixedReads.j2]; rfl) h0
  cases hneg : negOf s with
  | true =>
    refine Ev.step (fun k => ?_) (hsg [45] (by rw [hneg]; rfl))
    simp only [calamuslaw01_FixedReads.j1]
    rw [if_neg (by simp), if_pos trivial]
    rfl
  | false =>
    refine Ev.step (fun k => ?_) (hsg [] (by rw [hneg]; rfl))
    simp only [calamuslaw01_FixedReads.j1]
    rw [if_neg (by simp), if_neg (by simp)]
    rfl
def fNext (s : ByteArray) (x1 : Int) (a : Int × Int) (k : Nat) (b : Int × Int) : Option Bool :=
  if a.1 = b.1 then (calamuslaw01_FixedReads.j0 k s x1 a.1 a.2 (a.2 != b.2)) else (calamuslaw01_FixedReads.j0 k s x1 a.1 a.2 true)
def j0Next (x1 a e : Int) (k : Nat) (b : Bool × List Int × Int × Bool) : Option Bool :=
  if b.2.2.2 = true then (calamuslaw01_FixedReads.j1 k x1 a e b.1 b.2.1 b.2.2.1 (decide ((wrap64 ((b.2.1.length : Int) + (wrap64 ((wrap64 (Int.tmod x1 8)) * 2)))) > 36))) else (calamuslaw01_FixedReads.j1 k x1 a e b.1 b.2.1 b.2.2.1 true)
theorem j1_works (x1 a e : Int) (g : Bool) (d : List Int) (b : Int) : Ev (fun k => calamuslaw01_FixedReads.j1 k x1 a e g d b true) true := by
  refine Ev.step (f := fun k => (calamuslaw01_works.f k).bind fun t => some t) (fun k => ?_) (works_ev rfl)
  simp only [calamuslaw01_FixedReads.j1]
  rw [if_pos trivial]
theorem FixedReads_ev (s : List UInt8) (x1 : Int) (h0 : 0 ≤ x1) : Ev (fun k => calamuslaw01_FixedReads.f k (tx s) x1) true := by
  obtain ⟨n, hn, h8⟩ : ∃ n : Nat, Int.tmod x1 8 = n ∧ n ≤ 7 := by
    rw [Int.tmod_eq_emod_of_nonneg h0]
    exact ⟨(x1 % 8).toNat, by omega, by omega⟩
  by_cases hs : s.length ≤ 200
  · have hR : Ev (fun k => calamusref01_Read.f k (tx s)) (read s) := Read_ev s
    have hj0 : Ev (fun k => calamuslaw01_FixedReads.j0 k (tx s) x1 (read s).1 (read s).2 false) true := by
      refine Ev.step (f := fun k => (calamusref01_Right.f k (tx s)).bind (j0Next x1 (read s).1 (read s).2 k)) (fun k => ?_) (Ev.bind (Right_ev s) ?_)
      · simp only [calamuslaw01_FixedReads.j0]
        rw [if_neg (by simp)]
        rfl
      · rcases rightOf_cases s with ⟨a, b, c, hr⟩ | ⟨hg, hr⟩
        · rw [hr]
          exact Ev.congr (fun k => by unfold j0Next; rw [if_neg (by simp)]) (j1_works _ _ _ _ _ _)
        · rw [hr]
          have hlen : (wholeOf s ++ partOf s).length ≤ 40 := by
            have : goodText s = true := hg
            unfold goodText at this
            simp only [Bool.and_eq_true, decide_eq_true_eq] at this
            have hrl : (restOf s).length ≤ s.length := by unfold restOf; split <;> simp
            have hcl : ∀ l : List UInt8, (cutAt 46 l).1.length + ((cutAt 46 l).2.getD []).length ≤ l.length := fun l => by
              induction l with
              | nil => simp [cutAt]
              | cons x l ih =>
                by_cases h : x = 46
                · simp [cutAt, h]
                · simp [cutAt, h]; omega
            have := hcl (restOf s)
            rw [List.length_append]; unfold wholeOf partOf; omega
          have hwr : wrap64 (((dv (wholeOf s ++ partOf s)).length : Int) + wrap64 (wrap64 (Int.tmod x1 8) * 2)) = (((wholeOf s ++ partOf s).length + 2 * n : Nat) : Int) := by
            rw [hn, dv_length, w64 (n := (n : Int)) (by omega) (by omega), w64 (n := (n : Int) * 2) (by omega) (by omega), w64 (by omega) (by omega)]; omega
          by_cases hl : (wholeOf s ++ partOf s).length + 2 * n ≤ 36
          · refine Ev.congr (fun k => ?_) (j1_ev s x1 n hn h8 hg hl)
            unfold j0Next
            simp only [hwr]
            rw [if_pos trivial, decide_eq_false (by omega)]
          · refine Ev.congr (fun k => ?_) (j1_works x1 (read s).1 (read s).2 (negOf s) (dv (wholeOf s ++ partOf s)) ((partOf s).length : Int))
            unfold j0Next
            simp only [hwr]
            rw [if_pos trivial, decide_eq_true (by omega)]
    refine Ev.congr (f := fun k => (calamusref01_Read.f k (tx s)).bind (fNext (tx s) x1 (read s) k)) (fun k => ?_) (Ev.bind hR (Ev.congr (fun k => ?_) hj0))
    · have : fixed_Read.f k (tx s) = some (read s) := by
        unfold fixed_Read.f
        rw [if_pos (by rw [tx_size]; omega), tx_data]
      simp only [calamuslaw01_FixedReads.f]
      rw [if_neg (by rw [tx_size]; omega), this, Option.bind_some]
      rfl
    · unfold fNext
      rw [if_pos rfl, bne_self_eq_false]
  · refine Ev.congr (f := fun k => (calamuslaw01_works.f k).bind fun t => some t) (fun k => ?_) (works_ev rfl)
    simp only [calamuslaw01_FixedReads.f]
    rw [if_pos (by rw [tx_size]; omega)]
theorem FixedReads_true (s : ByteArray) (x : Int) (h0 : 0 ≤ x) (w : World) (hw : Wf w) :
    Calls Tryz.prog 7 #[.string s, .int .u8 x] w fun e w' => e = .returned (.bool true) ∧ Below w.heap.size w w' := by
  obtain ⟨k, hk⟩ := (FixedReads_ev s.data.toList x h0).rounds
  have e : tx s.data.toList = s := tx_ext rfl
  rw [e] at hk
  exact calamuslaw01_FixedReads.calls k s x true w hk hw
end Go.Proofs.YtfhadnhpognefaaGreatDoor.Fx
