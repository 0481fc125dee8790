/- What is proved here: CnfMeans answers true of every two formulas and every model. (part 2 of 6) No condition. -/
import Derived.Test.YtjfmoildblcjiaaGreatDoorCM1
import Derived.Lib.AtoiAll
import Derived.Lib.Strings
import Derived.Lib.Bytes
import Derived.Lib.IndexBytes
import Derived.Lib.AtoiAllCases
import Derived.Deep.RegionHeld3
import Derived.WalkSpells
import Derived.Outline
import Derived.Lib.CutLaws
import Derived.Lib.SplitLaws
import Derived.Shelf.Strings.SplitCore

section
-- Made for this seat by wip/pr.py: the kit's printer, run with functions that were proved by hand.
namespace Go.Proofs.YtjfmoildblcjiaaGreatDoor.QP
open Go.RowKit Go.Proofs.YtjfmoildblcjiaaGreatDoorW.PrintWords Go.Proofs.YtjfmoildblcjiaaGreatDoorW.PrintLast Go.Proofs.YtjfmoildblcjiaaGreatDoorW.PrintMore
attribute [local go_sem] max2_int min2_int max_two min_two max_three min_three max_four min_four   -- for this text's walks alone
set_option linter.unusedVariables false
set_option linter.unusedSimpArgs false

/-! ### stringslite_HasPrefix: function 88 -/
def stringslite_HasPrefix.f (a0 : ByteArray) (a1 : ByteArray) : Option (Bool) := if (a0.size : Int) ≥ (a1.size : Int) then (if 0 ≤ (a1.size : Int) then (if (a1.size : Int) ≤ (a0.size : Int) then (some ((a0.extract 0 ((a1.size : Int) : Int).toNat).toList == a1.toList)) else (none)) else (none)) else (some false)
set_option maxHeartbeats 8000000 in
set_option maxRecDepth 100000 in
theorem stringslite_HasPrefix.calls (a0 : ByteArray) (a1 : ByteArray) (r : Bool) (w : World) (h : stringslite_HasPrefix.f a0 a1 = some r) :
    Calls Tryz.prog 88 #[.string a0, .string a1] w fun e w' => e = .returned (.bool r) ∧ Drawn0 w w' := by
  have H : (if (a0.size : Int) ≥ (a1.size : Int) then (if 0 ≤ (a1.size : Int) then (if (a1.size : Int) ≤ (a0.size : Int) then (some ((a0.extract 0 ((a1.size : Int) : Int).toNat).toList == a1.toList)) else (none)) else (none)) else (some false)) = some r := h
  clear h
  by_cases c3 : (a0.size : Int) ≥ (a1.size : Int)
  · rw [if_pos c3] at H
    have c3b0 : decide ((a1.size : Int) ≤ (a0.size : Int)) = true := decide_eq_true c3
    have c3b1 : decide (a1.size ≤ a0.size) = true := decide_eq_true (Int.ofNat_le.mp c3)
    clear c3
    by_cases c4 : 0 ≤ (a1.size : Int)
    · rw [if_pos c4] at H
      have c4b0 := eq_true c4
      have c4b1 : decide (0 ≤ (a1.size : Int)) = true := decide_eq_true c4
      clear c4
      by_cases c5 : (a1.size : Int) ≤ (a0.size : Int)
      · rw [if_pos c5] at H
        have c5b0 := eq_true c5
        have c5b1 : decide ((a1.size : Int) ≤ (a0.size : Int)) = true := decide_eq_true c5
        clear c5
        obtain rfl := Option.some.inj H
        go_enter Tryz.func88, Tryz.ntmps88
        go_wp2
        go_ret
        exact ⟨by first | rfl | (simp; done) | (simp [*]; done), by repeat (first | exact Drawn0.refl _ | apply Drawn0.step)⟩
      · rw [if_neg c5] at H
        exact absurd H (by simp)
    · rw [if_neg c4] at H
      exact absurd H (by simp)
  · rw [if_neg c3] at H
    have c3b0 : decide ((a1.size : Int) ≤ (a0.size : Int)) = false := decide_eq_false c3
    have c3b1 : decide (a1.size ≤ a0.size) = false := decide_eq_false (fun h => c3 (Int.ofNat_le.mpr h))
    clear c3
    obtain rfl := Option.some.inj H
    go_enter Tryz.func88, Tryz.ntmps88
    go_wp2
    go_ret
    exact ⟨by first | rfl | (simp; done) | (simp [*]; done), by repeat (first | exact Drawn0.refl _ | apply Drawn0.step)⟩

/-! ### stringslite_TrimPrefix: function 163 -/
def stringslite_TrimPrefix.f (a0 : ByteArray) (a1 : ByteArray) : Option (ByteArray) := (stringslite_HasPrefix.f a0 a1).bind fun t101 => (if t101 = true then (if 0 ≤ (a1.size : Int) then (if (a1.size : Int) ≤ (a0.size : Int) then (some (a0.extract ((a1.size : Int) : Int).toNat a0.size)) else (none)) else (none)) else (some a0))
set_option maxHeartbeats 8000000 in
set_option maxRecDepth 100000 in
theorem stringslite_TrimPrefix.calls (a0 : ByteArray) (a1 : ByteArray) (r : ByteArray) (w : World) (h : stringslite_TrimPrefix.f a0 a1 = some r) :
    Calls Tryz.prog 163 #[.string a0, .string a1] w fun e w' => e = .returned (.string r) ∧ Drawn0 w w' := by
  have H : ((stringslite_HasPrefix.f a0 a1).bind fun t101 => (if t101 = true then (if 0 ≤ (a1.size : Int) then (if (a1.size : Int) ≤ (a0.size : Int) then (some (a0.extract ((a1.size : Int) : Int).toNat a0.size)) else (none)) else (none)) else (some a0))) = some r := h
  clear h
  replace H := Option.bind_eq_some_iff.mp H
  obtain ⟨t101, A30, H⟩ := H
  replace H : (if t101 = true then (if 0 ≤ (a1.size : Int) then (if (a1.size : Int) ≤ (a0.size : Int) then (some (a0.extract ((a1.size : Int) : Int).toNat a0.size)) else (none)) else (none)) else (some a0)) = some r := H
  have A3 := Aside0.mk A30
  clear A30
  by_cases c4 : t101 = true
  · subst c4
    have H1 : (if 0 ≤ (a1.size : Int) then (if (a1.size : Int) ≤ (a0.size : Int) then (some (a0.extract ((a1.size : Int) : Int).toNat a0.size)) else (none)) else (none)) = some r := by rw [if_pos rfl] at H; exact H
    clear H
    have H := H1
    clear H1
    by_cases c5 : 0 ≤ (a1.size : Int)
    · rw [if_pos c5] at H
      have c5b0 := eq_true c5
      have c5b1 : decide (0 ≤ (a1.size : Int)) = true := decide_eq_true c5
      clear c5
      by_cases c6 : (a1.size : Int) ≤ (a0.size : Int)
      · rw [if_pos c6] at H
        have c6b0 := eq_true c6
        have c6b1 : decide ((a1.size : Int) ≤ (a0.size : Int)) = true := decide_eq_true c6
        clear c6
        obtain rfl := Option.some.inj H
        go_enter Tryz.func163, Tryz.ntmps163
        go_wp2_with (first | ((with_reducible refine gate_callee (f := 88) rfl ?_); refine goesL_ (some 7) rfl rfl Tryz.func88 (by kernel_rfl) rfl #[.string a0, .string a1] rfl (by (try simp only [List.map_toArray, List.map_cons, List.map_nil]); first | done | rfl | (simp only [List.length_drop, List.length_take]; rfl)) ?_; (with_reducible refine (stringslite_HasPrefix.calls a0 a1 true _ A3.out).mono ?_); rintro e w' ⟨rfl, ⟨nd, rfl⟩⟩; refine ⟨_, rfl, ?_⟩))
        go_ret
        exact ⟨by first | rfl | (simp; done) | (simp [*]; done), by repeat (first | exact Drawn0.refl _ | apply Drawn0.step)⟩
      · rw [if_neg c6] at H
        exact absurd H (by simp)
    · rw [if_neg c5] at H
      exact absurd H (by simp)
  · replace c4 := Bool.eq_false_iff.mpr c4
    subst c4
    have H1 : (some a0) = some r := by rw [if_neg (show ¬ (false = true) by decide)] at H; exact H
    clear H
    have H := H1
    clear H1
    obtain rfl := Option.some.inj H
    go_enter Tryz.func163, Tryz.ntmps163
    go_wp2_with (first | ((with_reducible refine gate_callee (f := 88) rfl ?_); refine goesL_ (some 7) rfl rfl Tryz.func88 (by kernel_rfl) rfl #[.string a0, .string a1] rfl (by (try simp only [List.map_toArray, List.map_cons, List.map_nil]); first | done | rfl | (simp only [List.length_drop, List.length_take]; rfl)) ?_; (with_reducible refine (stringslite_HasPrefix.calls a0 a1 false _ A3.out).mono ?_); rintro e w' ⟨rfl, ⟨nd, rfl⟩⟩; refine ⟨_, rfl, ?_⟩))
    go_ret
    exact ⟨by first | rfl | (simp; done) | (simp [*]; done), by repeat (first | exact Drawn0.refl _ | apply Drawn0.step)⟩

/-! ### strings_TrimPrefix: function 141 -/
def strings_TrimPrefix.f (a0 : ByteArray) (a1 : ByteArray) : Option (ByteArray) := (stringslite_TrimPrefix.f a0 a1).bind fun t102 => (some t102)
set_option maxHeartbeats 8000000 in
set_option maxRecDepth 100000 in
theorem strings_TrimPrefix.calls (a0 : ByteArray) (a1 : ByteArray) (r : ByteArray) (w : World) (h : strings_TrimPrefix.f a0 a1 = some r) :
    Calls Tryz.prog 141 #[.string a0, .string a1] w fun e w' => e = .returned (.string r) ∧ Drawn0 w w' := by
  have H : ((stringslite_TrimPrefix.f a0 a1).bind fun t102 => (some t102)) = some r := h
  clear h
  replace H := Option.bind_eq_some_iff.mp H
  obtain ⟨t102, A30, H⟩ := H
  replace H : (some t102) = some r := H
  have A3 := Aside0.mk A30
  clear A30
  obtain rfl := Option.some.inj H
  go_enter Tryz.func141, Tryz.ntmps141
  go_wp2_with (first | ((with_reducible refine gate_callee (f := 163) rfl ?_); refine goesL_ (some 7) rfl rfl Tryz.func163 (by kernel_rfl) rfl #[.string a0, .string a1] rfl (by (try simp only [List.map_toArray, List.map_cons, List.map_nil]); first | done | rfl | (simp only [List.length_drop, List.length_take]; rfl)) ?_; (with_reducible refine (stringslite_TrimPrefix.calls a0 a1 t102 _ A3.out).mono ?_); rintro e w' ⟨rfl, ⟨nd, rfl⟩⟩; refine ⟨_, rfl, ?_⟩))
  go_ret
  exact ⟨by first | rfl | (simp; done) | (simp [*]; done), by repeat (first | exact Drawn0.refl _ | apply Drawn0.step)⟩

/-! ### cnf_isWhole: function 117 -/
mutual
def cnf_isWhole.j0 : Nat → ByteArray → Bool → Option (Bool)
  | 0, _, _ => none
  | k + 1, x3, x17 => if x17 = true then (some false) else (cnf_isWhole.l0 k x3 (x3.size : Int) 0)
def cnf_isWhole.l0 : Nat → ByteArray → Int → Int → Option (Bool)
  | 0, _, _, _ => none
  | k + 1, x3, x19, x20 => if x20 < x19 then (if 0 ≤ x20 then (if x20 < (x3.size : Int) then (if (bt x3 x20) < 48 then (some false) else (if (bt x3 x20) > 57 then (some false) else (cnf_isWhole.l0 k x3 x19 (wrap64 (x20 + 1))))) else (none)) else (none)) else (some true)
end
def cnf_isWhole.f (k : Nat) (a0 : ByteArray) : Option (Bool) := (strings_TrimPrefix.f a0 (⟨#[45]⟩ : ByteArray)).bind fun t103 => (if t103.toList = ([] : List UInt8) then (cnf_isWhole.j0 k t103 true) else (if 0 < (t103.size : Int) then (if (bt t103 0) = 48 then (cnf_isWhole.j0 k t103 (a0.toList != ([48] : List UInt8))) else (cnf_isWhole.j0 k t103 false)) else (none)))
set_option maxHeartbeats 8000000 in
set_option maxRecDepth 100000 in
theorem cnf_isWhole.calls (k : Nat) (a0 : ByteArray) (r : Bool) (w : World) (h : cnf_isWhole.f k a0 = some r) :
    Calls Tryz.prog 117 #[.string a0] w fun e w' => e = .returned (.bool r) ∧ Drawn0 w w' := by
  have H : ((strings_TrimPrefix.f a0 (⟨#[45]⟩ : ByteArray)).bind fun t103 => (if t103.toList = ([] : List UInt8) then (cnf_isWhole.j0 k t103 true) else (if 0 < (t103.size : Int) then (if (bt t103 0) = 48 then (cnf_isWhole.j0 k t103 (a0.toList != ([48] : List UInt8))) else (cnf_isWhole.j0 k t103 false)) else (none)))) = some r := h
  clear h
  replace H := Option.bind_eq_some_iff.mp H
  obtain ⟨t103, A20, H⟩ := H
  replace H : (if t103.toList = ([] : List UInt8) then (cnf_isWhole.j0 k t103 true) else (if 0 < (t103.size : Int) then (if (bt t103 0) = 48 then (cnf_isWhole.j0 k t103 (a0.toList != ([48] : List UInt8))) else (cnf_isWhole.j0 k t103 false)) else (none))) = some r := H
  have A2 := Aside0.mk A20
  clear A20
  have HC3 := Aside0.mk H
  clear H
  go_enter Tryz.func117, Tryz.ntmps117
  go_upto_region 2 with (first | ((with_reducible refine gate_callee (f := 141) rfl ?_); refine goesL_ (some 6) rfl rfl Tryz.func141 (by kernel_rfl) rfl #[.string a0, .string (⟨#[45]⟩ : ByteArray)] rfl (by (try simp only [List.map_toArray, List.map_cons, List.map_nil]); first | done | rfl | (simp only [List.length_drop, List.length_take]; rfl)) ?_; (with_reducible refine (strings_TrimPrefix.calls a0 (⟨#[45]⟩ : ByteArray) t103 _ A2.out).mono ?_); rintro e w' ⟨rfl, ⟨nd, rfl⟩⟩; refine ⟨_, rfl, ?_⟩))
  (try simp only [Act.put, List.setIfInBounds_toArray, List.set_cons_zero, List.set_cons_succ])
  go_cut [17] (fun v17 wc => ∃ (kq : Nat) (x17_2 : Bool), v17 = .bool x17_2 ∧ Aside0 (cnf_isWhole.j0 kq t103 x17_2 = some r) ∧ Aside0 (kq ≤ k) ∧ Drawn0 w wc)
  case first =>
    have H := HC3.out
    clear HC3
    by_cases c4 : t103.toList = ([] : List UInt8)
    · rw [if_pos c4] at H
      have c4b0 : (t103.toList == ([] : List UInt8)) = true := beq_iff_eq.mpr c4
      have c4b1 : (t103.toList != ([] : List UInt8)) = false := bne_eq_false_iff_eq.mpr c4
      clear c4
      (first | rw [c4b0] | (simp only [i64_w, i32_w]; rw [c4b0]) | skip)
      have H' := Aside0.mk H
      clear H
      go_wp2
      go_meet
      case rel => exact ⟨_, (true), (by first | rfl | (simp; done) | (simp [*]; done)), H', ⟨by first | omega | exact Nat.le_refl _⟩, by repeat (first | exact Drawn0.refl _ | apply Drawn0.step)⟩
    · rw [if_neg c4] at H
      have c4b0 : (t103.toList == ([] : List UInt8)) = false := beq_eq_false_iff_ne.mpr c4
      have c4b1 : (t103.toList != ([] : List UInt8)) = true := bne_iff_ne.mpr c4
      (first | rw [c4b0] | (simp only [i64_w, i32_w]; rw [c4b0]) | skip)
      by_cases c5 : 0 < (t103.size : Int)
      · rw [if_pos c5] at H
        have c5b0 : decide (0 < (t103.size : Int)) = true := decide_eq_true c5
        have c5b1 : decide (0 < t103.size) = true := decide_eq_true (by omega)
        clear c5
        by_cases c7 : (bt t103 0) = 48
        · rw [if_pos c7] at H
          have c7b0 : ((bt t103 0) == 48) = true := beq_iff_eq.mpr c7
          have c7b1 : ((bt t103 0) != 48) = false := bne_eq_false_iff_eq.mpr c7
          clear c7
          have H' := Aside0.mk H
          clear H
          have p6 : 0 ≤ (0 : Int) := (by omega)
          have q6 : 0 < t103.size := (by have : (0 : Int) < (t103.size : Int) := of_decide_eq_true (by first | (with_reducible assumption) | assumption); omega)
          have hx6 : ∀ h : 0 < t103.size, ((t103[0]'h).toNat : Int) = bt t103 0 := bt_at t103 0
          clear p6
          have qi6 : (0 < (t103.size : Int)) = True := eq_true (of_decide_eq_true (by first | (with_reducible assumption) | assumption))
          replace q6 := eq_true q6
          go_wp2
          go_meet
          case rel => exact ⟨_, ((a0.toList != ([48] : List UInt8))), (by first | rfl | (simp; done) | (simp [*]; done)), H', ⟨by first | omega | exact Nat.le_refl _⟩, by repeat (first | exact Drawn0.refl _ | apply Drawn0.step)⟩
        · rw [if_neg c7] at H
          have c7b0 : ((bt t103 0) == 48) = false := beq_eq_false_iff_ne.mpr c7
          have c7b1 : ((bt t103 0) != 48) = true := bne_iff_ne.mpr c7
          have H' := Aside0.mk H
          clear H
          have p6 : 0 ≤ (0 : Int) := (by omega)
          have q6 : 0 < t103.size := (by have : (0 : Int) < (t103.size : Int) := of_decide_eq_true (by first | (with_reducible assumption) | assumption); omega)
          have hx6 : ∀ h : 0 < t103.size, ((t103[0]'h).toNat : Int) = bt t103 0 := bt_at t103 0
          clear p6
          have qi6 : (0 < (t103.size : Int)) = True := eq_true (of_decide_eq_true (by first | (with_reducible assumption) | assumption))
          replace q6 := eq_true q6
          go_wp2
          go_meet
          case rel => exact ⟨_, (false), (by first | rfl | (simp; done) | (simp [*]; done)), H', ⟨by first | omega | exact Nat.le_refl _⟩, by repeat (first | exact Drawn0.refl _ | apply Drawn0.step)⟩
      · rw [if_neg c5] at H
        exact absurd H (by simp)
  case rest =>
    clear HC3
    try clear c1
    try clear p2
    try clear c4
    try clear c4b0
    try clear c4b1
    try clear c5
    try clear c5b0
    try clear c5b1
    try clear p6
    try clear q6
    try clear hx6
    try clear qi6
    try clear c7
    try clear c7b0
    try clear c7b1
    try clear p6
    try clear q6
    obtain ⟨kq, x17_2, rfl, HA, HJ2, ⟨mc2, rfl⟩⟩ := hcut
    cases kq with
    | zero => exact absurd HA.out (by simp [cnf_isWhole.j0])
    | succ kj2 =>
      have H := HA.out
      clear HA
      simp only [cnf_isWhole.j0] at H
      by_cases c8 : x17_2 = true
      · subst c8
        have H1 : (some false) = some r := by rw [if_pos rfl] at H; exact H
        clear H
        have H := H1
        clear H1
        obtain rfl := Option.some.inj H
        go_wp2
        go_ret
        exact ⟨by first | rfl | (simp; done) | (simp [*]; done), by repeat (first | exact Drawn0.refl _ | apply Drawn0.step)⟩
      · replace c8 := Bool.eq_false_iff.mpr c8
        subst c8
        have H1 : (cnf_isWhole.l0 kj2 t103 (t103.size : Int) 0) = some r := by rw [if_neg (show ¬ (false = true) by decide)] at H; exact H
        clear H
        have H := H1
        clear H1
        have H' := Aside0.mk H
        clear H
        go_wp2
        go_loopg [20] kj2 (fun kq v20 w' => ∃ (x20_2 : Int), v20 = .int .i64 x20_2 ∧ Aside0 (cnf_isWhole.l0 kq t103 (t103.size : Int) x20_2 = some r) ∧ Aside0 (kq ≤ kj2) ∧ Drawn0 w w')
        case atStart => exact ⟨(0), (by first | rfl | (simp; done) | (simp [*]; done)), H', ⟨Nat.le_refl _⟩, by repeat (first | exact Drawn0.refl _ | apply Drawn0.step)⟩
        case round =>
          clear H'
          try clear c1
          try clear c2
          try clear p2
          try clear c4
          try clear c4b0
          try clear c4b1
          try clear c5
          try clear c5b0
          try clear c5b1
          try clear p6
          try clear q6
          try clear hx6
          try clear qi6
          try clear c7
          try clear c7b0
          try clear c7b1
          try clear c8
          try clear p2
          try clear p6
          try clear q6
          obtain ⟨x20_2, rfl, HA, HK2, ⟨m2, rfl⟩⟩ := hrel
          cases gk with
          | zero => exact absurd HA.out (by simp [cnf_isWhole.l0])
          | succ k2 =>
            have H := HA.out
            clear HA
            simp only [cnf_isWhole.l0] at H
            by_cases c9 : x20_2 < (t103.size : Int)
            · rw [if_pos c9] at H
              have c9b0 : decide (x20_2 < (t103.size : Int)) = true := decide_eq_true c9
              clear c9
              by_cases c10 : 0 ≤ x20_2
              · rw [if_pos c10] at H
                have c10b0 : decide (0 ≤ x20_2) = true := decide_eq_true c10
                clear c10
                by_cases c11 : x20_2 < (t103.size : Int)
                · rw [if_pos c11] at H
                  have c11b0 : decide (x20_2 < (t103.size : Int)) = true := decide_eq_true c11
                  clear c11
                  by_cases c13 : (bt t103 x20_2) < 48
                  · rw [if_pos c13] at H
                    have c13b0 : decide ((bt t103 x20_2) < 48) = true := decide_eq_true c13
                    clear c13
                    obtain rfl := Option.some.inj H
                    have p12 : 0 ≤ (x20_2 : Int) := of_decide_eq_true (by first | (with_reducible assumption) | assumption)
                    have q12 : x20_2 < (t103.size : Int) := of_decide_eq_true (by first | (with_reducible assumption) | assumption)
                    have hx12 := bt_at t103 x20_2
                    replace p12 := eq_true p12
                    replace q12 := eq_true q12
                    go_wp2
                    go_ret
                    exact ⟨by first | rfl | (simp; done) | (simp [*]; done), by repeat (first | exact Drawn0.refl _ | apply Drawn0.step)⟩
                  · rw [if_neg c13] at H
                    have c13b0 : decide ((bt t103 x20_2) < 48) = false := decide_eq_false c13
                    clear c13
                    by_cases c15 : (bt t103 x20_2) > 57
                    · rw [if_pos c15] at H
                      have c15b0 : decide (57 < (bt t103 x20_2)) = true := decide_eq_true c15
                      clear c15
                      obtain rfl := Option.some.inj H
                      have p12 : 0 ≤ (x20_2 : Int) := of_decide_eq_true (by first | (with_reducible assumption) | assumption)
                      have q12 : x20_2 < (t103.size : Int) := of_decide_eq_true (by first | (with_reducible assumption) | assumption)
                      have hx12 := bt_at t103 x20_2
                      replace p12 := eq_true p12
                      replace q12 := eq_true q12
                      have p14 : 0 ≤ (x20_2 : Int) := of_decide_eq_true (by first | (with_reducible assumption) | assumption)
                      have q14 : x20_2 < (t103.size : Int) := of_decide_eq_true (by first | (with_reducible assumption) | assumption)
                      have hx14 := bt_at t103 x20_2
                      replace p14 := eq_true p14
                      replace q14 := eq_true q14
                      go_wp2
                      go_ret
                      exact ⟨by first | rfl | (simp; done) | (simp [*]; done), by repeat (first | exact Drawn0.refl _ | apply Drawn0.step)⟩
                    · rw [if_neg c15] at H
                      have c15b0 : decide (57 < (bt t103 x20_2)) = false := decide_eq_false c15
                      clear c15
                      have H' := Aside0.mk H
                      clear H
                      have p12 : 0 ≤ (x20_2 : Int) := of_decide_eq_true (by first | (with_reducible assumption) | assumption)
                      have q12 : x20_2 < (t103.size : Int) := of_decide_eq_true (by first | (with_reducible assumption) | assumption)
                      have hx12 := bt_at t103 x20_2
                      replace p12 := eq_true p12
                      replace q12 := eq_true q12
                      have p14 : 0 ≤ (x20_2 : Int) := of_decide_eq_true (by first | (with_reducible assumption) | assumption)
                      have q14 : x20_2 < (t103.size : Int) := of_decide_eq_true (by first | (with_reducible assumption) | assumption)
                      have hx14 := bt_at t103 x20_2
                      replace p14 := eq_true p14
                      replace q14 := eq_true q14
                      go_wp2
                      go_roundg k2
                      case measure => have := HJ2.out; have := HK2.out; omega
                      case rel => exact ⟨(wrap64 (x20_2 + 1)), (by first | rfl | (simp; done) | (simp [*]; done)), H', ⟨by have := HJ2.out; have := HK2.out; omega⟩, by repeat (first | exact Drawn0.refl _ | apply Drawn0.step)⟩
                · rw [if_neg c11] at H
                  exact absurd H (by simp)
              · rw [if_neg c10] at H
                exact absurd H (by simp)
            · rw [if_neg c9] at H
              have c9b0 : decide (x20_2 < (t103.size : Int)) = false := decide_eq_false c9
              clear c9
              obtain rfl := Option.some.inj H
              go_wp2
              go_ret
              exact ⟨by first | rfl | (simp; done) | (simp [*]; done), by repeat (first | exact Drawn0.refl _ | apply Drawn0.step)⟩

/-! ### cnf_isBlank: function 89 -/
def cnf_isBlank.f (a0 : Int) : Option (Bool) := if a0 = 32 then (some true) else (if a0 = 9 then (some true) else (some (a0 == 13)))
set_option maxHeartbeats 8000000 in
set_option maxRecDepth 100000 in
theorem cnf_isBlank.calls (a0 : Int) (r : Bool) (w : World) (h : cnf_isBlank.f a0 = some r) :
    Calls Tryz.prog 89 #[.int .u8 a0] w fun e w' => e = .returned (.bool r) ∧ Drawn0 w w' := by
  have H : (if a0 = 32 then (some true) else (if a0 = 9 then (some true) else (some (a0 == 13)))) = some r := h
  clear h
  by_cases c2 : a0 = 32
  · rw [if_pos c2] at H
    have c2b0 : (a0 == 32) = true := beq_iff_eq.mpr c2
    have c2b1 : (a0 != 32) = false := bne_eq_false_iff_eq.mpr c2
    clear c2
    obtain rfl := Option.some.inj H
    go_enter Tryz.func89, Tryz.ntmps89
    go_wp2
    go_ret
    exact ⟨by first | rfl | (simp; done) | (simp [*]; done), by repeat (first | exact Drawn0.refl _ | apply Drawn0.step)⟩
  · rw [if_neg c2] at H
    have c2b0 : (a0 == 32) = false := beq_eq_false_iff_ne.mpr c2
    have c2b1 : (a0 != 32) = true := bne_iff_ne.mpr c2
    by_cases c3 : a0 = 9
    · rw [if_pos c3] at H
      have c3b0 : (a0 == 9) = true := beq_iff_eq.mpr c3
      have c3b1 : (a0 != 9) = false := bne_eq_false_iff_eq.mpr c3
      clear c3
      obtain rfl := Option.some.inj H
      go_enter Tryz.func89, Tryz.ntmps89
      go_wp2
      go_ret
      exact ⟨by first | rfl | (simp; done) | (simp [*]; done), by repeat (first | exact Drawn0.refl _ | apply Drawn0.step)⟩
    · rw [if_neg c3] at H
      have c3b0 : (a0 == 9) = false := beq_eq_false_iff_ne.mpr c3
      have c3b1 : (a0 != 9) = true := bne_iff_ne.mpr c3
      obtain rfl := Option.some.inj H
      go_enter Tryz.func89, Tryz.ntmps89
      go_wp2
      go_ret
      exact ⟨by first | rfl | (simp; done) | (simp [*]; done), by repeat (first | exact Drawn0.refl _ | apply Drawn0.step)⟩

/-! ### strings_HasPrefix: function 46 -/
def strings_HasPrefix.f (a0 : ByteArray) (a1 : ByteArray) : Option (Bool) := (stringslite_HasPrefix.f a0 a1).bind fun t104 => (some t104)
set_option maxHeartbeats 8000000 in
set_option maxRecDepth 100000 in
theorem strings_HasPrefix.calls (a0 : ByteArray) (a1 : ByteArray) (r : Bool) (w : World) (h : strings_HasPrefix.f a0 a1 = some r) :
    Calls Tryz.prog 46 #[.string a0, .string a1] w fun e w' => e = .returned (.bool r) ∧ Drawn0 w w' := by
  have H : ((stringslite_HasPrefix.f a0 a1).bind fun t104 => (some t104)) = some r := h
  clear h
  replace H := Option.bind_eq_some_iff.mp H
  obtain ⟨t104, A30, H⟩ := H
  replace H : (some t104) = some r := H
  have A3 := Aside0.mk A30
  clear A30
  obtain rfl := Option.some.inj H
  go_enter Tryz.func46, Tryz.ntmps46
  go_wp2_with (first | ((with_reducible refine gate_callee (f := 88) rfl ?_); refine goesL_ (some 7) rfl rfl Tryz.func88 (by kernel_rfl) rfl #[.string a0, .string a1] rfl (by (try simp only [List.map_toArray, List.map_cons, List.map_nil]); first | done | rfl | (simp only [List.length_drop, List.length_take]; rfl)) ?_; (with_reducible refine (stringslite_HasPrefix.calls a0 a1 t104 _ A3.out).mono ?_); rintro e w' ⟨rfl, ⟨nd, rfl⟩⟩; refine ⟨_, rfl, ?_⟩))
  go_ret
  exact ⟨by first | rfl | (simp; done) | (simp [*]; done), by repeat (first | exact Drawn0.refl _ | apply Drawn0.step)⟩

end Go.Proofs.YtjfmoildblcjiaaGreatDoor.QP
end

section
-- Made for this seat by wip/pr.py: the kit's printer, run with functions that were proved by hand.
namespace Go.Proofs.YtjfmoildblcjiaaGreatDoor.QP
open Go.RowKit Go.Proofs.YtjfmoildblcjiaaGreatDoorW.PrintWords Go.Proofs.YtjfmoildblcjiaaGreatDoorW.PrintLast Go.Proofs.YtjfmoildblcjiaaGreatDoorW.PrintMore
attribute [local go_sem] max2_int min2_int max_two min_two max_three min_three max_four min_four   -- for this text's walks alone
set_option linter.unusedVariables false
set_option linter.unusedSimpArgs false

/-! ### trestleref14_whole: function 94 -/
end Go.Proofs.YtjfmoildblcjiaaGreatDoor.QP
end

section
-- Made for this seat by wip/pr.py: the kit's printer, run with functions that were proved by hand.
namespace Go.Proofs.YtjfmoildblcjiaaGreatDoor.QP
open Go.RowKit Go.Proofs.YtjfmoildblcjiaaGreatDoorW.PrintWords Go.Proofs.YtjfmoildblcjiaaGreatDoorW.PrintLast Go.Proofs.YtjfmoildblcjiaaGreatDoorW.PrintMore
attribute [local go_sem] max2_int min2_int max_two min_two max_three min_three max_four min_four   -- for this text's walks alone
set_option linter.unusedVariables false
set_option linter.unusedSimpArgs false

/-! ### trestleref14_word: function 53 -/
/-! ### trestleref02_isDigit: function 120 -/
/-! ### trestleref02_Number0: function 93 -/
end Go.Proofs.YtjfmoildblcjiaaGreatDoor.QP
end

section
-- Made for this seat by wip/pr.py: the kit's printer, run with functions that were proved by hand.
namespace Go.Proofs.YtjfmoildblcjiaaGreatDoor.QP
open Go.RowKit Go.Proofs.YtjfmoildblcjiaaGreatDoorW.PrintWords Go.Proofs.YtjfmoildblcjiaaGreatDoorW.PrintLast Go.Proofs.YtjfmoildblcjiaaGreatDoorW.PrintMore
attribute [local go_sem] max2_int min2_int max_two min_two max_three min_three max_four min_four   -- for this text's walks alone
set_option linter.unusedVariables false
set_option linter.unusedSimpArgs false

/-! ### trestleref14_problem: function 52 -/
/-! ### trestleref14_lineEnd: function 50 -/
/-! ### trestleref14_comment: function 51 -/
end Go.Proofs.YtjfmoildblcjiaaGreatDoor.QP
end

section
-- Made for this seat by wip/pr.py: the kit's printer, run with functions that were proved by hand.
namespace Go.Proofs.YtjfmoildblcjiaaGreatDoor.QP
open Go.RowKit Go.Proofs.YtjfmoildblcjiaaGreatDoorW.PrintWords Go.Proofs.YtjfmoildblcjiaaGreatDoorW.PrintLast Go.Proofs.YtjfmoildblcjiaaGreatDoorW.PrintMore
attribute [local go_sem] max2_int min2_int max_two min_two max_three min_three max_four min_four   -- for this text's walks alone
set_option linter.unusedVariables false
set_option linter.unusedSimpArgs false

end Go.Proofs.YtjfmoildblcjiaaGreatDoor.QP
end

section
/- What is proved here: cnf's reader as plain Lean; its state in memory. -/
namespace Go.Proofs.YtjfmoildblcjiaaGreatDoor.P1
open Go.RowKit Go.Proofs.YtjfmoildblcjiaaGreatDoorW.PrintWords Go.Proofs.YtjfmoildblcjiaaGreatDoorW.PrintLast Go.Proofs.YtjfmoildblcjiaaGreatDoorW.PrintMore Go.Proofs.YtjfmoildblcjiaaGreatDoor.H1

def isDig (c : UInt8) : Bool := decide (48 ≤ c.toNat) && decide (c.toNat ≤ 57)
def digs (l : List UInt8) : List UInt8 := if l.head? = some 45 then l.tail else l
def wholeB (l : List UInt8) : Bool := decide (digs l ≠ []) && !(decide ((digs l).head? = some 48) && decide (l ≠ [48])) && (digs l).all isDig
def wholeN (l : List UInt8) : Int := match Lib.atoiAll l with | .ok v => v | _ => 1099511627776

/-- The reader. -/
structure Rd where
  v : Int
  cs : List (List Int)
  many : Int
  now : List Int
  op : Bool
def wordR (s : Rd) (l : List UInt8) : Int × Rd :=
  if wholeB l = false then (3, s)
  else if wholeN l < -s.v then (141, s)
  else if wholeN l > s.v then (141, s)
  else if s.op = false ∧ (s.cs.length : Int) = s.many then (41, s)
  else if wholeN l ≠ 0 ∧ (s.now.length : Int) = 16384 then (2, s)
  else if wholeN l = 0 then (0, { s with cs := s.cs ++ [s.now], now := [], op := false })
  else (0, { s with now := s.now ++ [wholeN l], op := true })
structure RGood (s : Rd) : Prop where
  v0 : 0 ≤ s.v
  v1 : s.v ≤ 262144
  m1 : s.many ≤ 524288
  c1 : (s.cs.length : Int) ≤ s.many
  c2 : s.op = true → (s.cs.length : Int) < s.many
  n1 : s.now.length ≤ 16384
  n2 : s.op = false → s.now = []
theorem good_word {s : Rd} (h : RGood s) (l : List UInt8) : RGood (wordR s l).2 := by
  unfold wordR
  split
  · exact h
  split
  · exact h
  split
  · exact h
  split
  · exact h
  split
  · exact h
  rename_i h1 h2 h3
  have hc : (s.cs.length : Int) < s.many := by
    cases ho : s.op with
    | true => exact h.c2 ho
    | false =>
      have := h.c1
      have : ¬ (s.cs.length : Int) = s.many := fun e => h2 ⟨ho, e⟩
      omega
  split
  · exact ⟨h.v0, h.v1, h.m1, by simp; omega, by simp, by simp, by simp⟩
  · rename_i h4
    have : ¬ (s.now.length : Int) = 16384 := fun e => h3 ⟨h4, e⟩
    exact ⟨h.v0, h.v1, h.m1, h.c1, fun _ => hc, by have := h.n1; simp; omega, by simp⟩

/-- Blocks of other types than these stay. -/
structure KeT (T : List Nat) (w w' : World) : Prop where
  size : w.heap.size ≤ w'.heap.size
  kt : ∀ (k : Nat) (cells : Array Value) (t : Nat), w.heap[k]? = some (.cells cells t (0, 0)) → t ∉ T → w'.heap[k]? = some (.cells cells t (0, 0))
theorem KeT.refl (T : List Nat) (w : World) : KeT T w w := ⟨Nat.le_refl _, fun _ _ _ h _ => h⟩
theorem KeT.trans {T : List Nat} {a b c : World} (h : KeT T a b) (k : KeT T b c) : KeT T a c := ⟨Nat.le_trans h.size k.size, fun i cells t hi h1 => k.kt i cells t (h.kt i cells t hi h1) h1⟩
theorem KeT.below {T : List Nat} {w w' : World} (h : Below w.heap.size w w') : KeT T w w' :=
  ⟨h.size, fun k _ _ hk _ => (h.block k (Array.getElem?_eq_some_iff.1 hk).1).trans hk⟩
theorem KeT.set {T : List Nat} {w : World} {g t : Nat} {cells : Array Value} (hg : w.heap[g]? = some (.cells cells t (0, 0))) (ht : t ∈ T) (i : Nat) (u : Value) : KeT T w (w.setCell ⟨g, i, none⟩ u) :=
  ⟨by simp [World.setCell], fun k c t' hk h1 => by
    have hne : k ≠ g := fun e => by subst e; rw [hg] at hk; cases hk; exact h1 ht
    exact (Below.heap_setCell _ _ _ _ hne).trans hk⟩
theorem KeT.row {T : List Nat} {α : Type} {w w' : World} {base e : Nat} {d : Kd α} {ok : Nat → Prop} {v : Value} {xs : List α} (hr : Kd.R d e w base ok v xs) (he : e ∈ T) (hg : w.grownBy w' v.ownBlock) : KeT T w w' :=
  ⟨hg.size, fun k c t hk h2 => by
    refine (hg.block k (Array.getElem?_eq_some_iff.1 hk).1 (fun e' => ?_)).trans hk
    obtain ⟨inner, hown⟩ := Kd.R_own hr
    obtain ⟨cells, hc⟩ := own_typed hown k e'.symm
    rw [hk] at hc
    cases hc
    exact h2 he⟩

/-- The reader lies in block g; its clauses and its open one were made from base on. -/
def RdS (w : World) (base g : Nat) (s : Rd) : Prop :=
  base ≤ g ∧ ∃ u n, w.heap[g]? = some (.cells #[.int .i64 s.v, u, .int .i64 s.many, n, .bool s.op] 67 (0, 0)) ∧
    Kd.S (Kd.slice 3 (Kd.int .i64)) 65 w base (fun k => True ∧ some k ≠ n.ownBlock) u s.cs ∧ Kd.R (Kd.int .i64) 3 w base (fun _ => True) n s.now
theorem RdS.below {w w' : World} {base g : Nat} {s : Rd} (h : RdS w base g s) (hb : Below w.heap.size w w') : RdS w' base g s := by
  obtain ⟨h0, u, n, hg, hs, hr⟩ := h
  exact ⟨h0, u, n, (hb.block g (Array.getElem?_eq_some_iff.1 hg).1).trans hg, Kd.S_below hs hb, Kd.R_below hr hb⟩
theorem RdS.lt {w : World} {base g : Nat} {s : Rd} (h : RdS w base g s) : g < w.heap.size := by
  obtain ⟨_, _, _, h, _⟩ := h
  exact (Array.getElem?_eq_some_iff.1 h).1

/-- What a reader's call changes. -/
abbrev TR : List Nat := [67, 3, 65]
theorem KeT.setNew {T : List Nat} {w W : World} (h : KeT T w W) {b : Nat} (hb : w.heap.size ≤ b) (i : Nat) (u : Value) : KeT T w (W.setCell ⟨b, i, none⟩ u) :=
  ⟨by have := h.size; simpa [World.setCell] using this, fun k c t hk h1 => by
    have hne : k ≠ b := fun e => by have := (Array.getElem?_eq_some_iff.1 hk).1; omega
    exact (Below.heap_setCell _ _ _ _ hne).trans (h.kt k c t hk h1)⟩
theorem RdS.setFar {w : World} {base g b t : Nat} {s : Rd} {cells : Array Value} (h : RdS w base g s) (hb : w.heap[b]? = some (.cells cells t (0, 0))) (ht : t ∉ TR) (i : Nat) (u : Value) : RdS (w.setCell ⟨b, i, none⟩ u) base g s := by
  obtain ⟨h0, u', n, hg, hs, hr⟩ := h
  simp only [TR, List.mem_cons, List.not_mem_nil, or_false, not_or] at ht
  refine ⟨h0, u', n, blk_far hg (by show g ≠ b; intro e; subst e; rw [hg] at hb; cases hb; exact ht.1 rfl) u, Kd.S_set hs hb ?_ i u, Kd.R_set hr hb ?_ i u⟩
  · intro q hq
    simp only [Kd.slice, Kd.int, Kd.scalar, List.mem_cons, List.not_mem_nil, or_false] at hq
    rcases hq with rfl | rfl
    · exact fun e => ht.2.2 e.symm
    · exact fun e => ht.2.1 e.symm
  · intro q hq
    simp only [Kd.int, Kd.scalar, List.mem_cons, List.not_mem_nil, or_false] at hq
    rcases hq with rfl
    exact fun e => ht.2.1 e.symm
/-- What strconv's errors hold. -/
def EVs (w : World) : Prop := (∃ ev, w.cell? ⟨3, 0, none⟩ = some ev ∧ (ev = .nilIface ∨ ∃ te pe, ev = .iface te pe))
theorem EVs.below {w w' : World} (h : EVs w) (hb : Below w.heap.size w w') : EVs w' := by
  obtain ⟨ev, h1, h2⟩ := h
  exact ⟨ev, pw_cell_below hb h1, h2⟩

/-! isWhole -/
theorem all_drop_cons {l : List UInt8} {p : UInt8 → Bool} {i : Nat} (h : i < l.length) : (l.drop i).all p = (p l[i] && (l.drop (i + 1)).all p) := by
  rw [List.drop_eq_getElem_cons h, List.all_cons]
theorem bt_L (s : ByteArray) (i : Nat) (h : i < s.data.toList.length) : bt s (i : Int) = ((s.data.toList[i]).toNat : Int) := by
  have h' : i < s.size := by rw [← data_length]; exact h
  simp only [bt, Int.toNat_natCast, h', dite_true]
  rfl
theorem whole_loop (d : ByteArray) (hd : d.size ≤ 9223372036854775806) : ∀ (n i : Nat), i + n = d.size → QP.cnf_isWhole.l0 (n + 1) d (d.size : Int) (i : Int) = some ((d.data.toList.drop i).all isDig)
  | 0, i, h => by
    rw [QP.cnf_isWhole.l0, if_neg (by omega), List.drop_of_length_le (by rw [data_length]; omega)]; rfl
  | n + 1, i, h => by
    have hi : i < d.data.toList.length := by rw [data_length]; omega
    rw [QP.cnf_isWhole.l0, if_pos (by omega), if_pos (by omega), if_pos (by omega), all_drop_cons hi, wrapn (n := d.size) (by omega) (by omega), bt_L d i hi, whole_loop d hd n (i + 1) (by omega)]
    generalize d.data.toList[i] = c
    unfold isDig
    by_cases h0 : (c.toNat : Int) < 48
    · rw [if_pos h0, decide_eq_false (by omega)]; rfl
    · rw [if_neg h0, decide_eq_true (by omega)]
      by_cases h1 : (c.toNat : Int) > 57
      · rw [if_pos h1, decide_eq_false (by omega)]; rfl
      · rw [if_neg h1, decide_eq_true (by omega)]; rfl
theorem hasPre (a b : ByteArray) : QP.strings_HasPrefix.f a b = some (Lib.hasPrefix a.data.toList b.data.toList) := by
  unfold QP.strings_HasPrefix.f QP.stringslite_HasPrefix.f
  rw [← Lib.hasPrefix_raw]
  by_cases h : (a.size : Int) ≥ (b.size : Int)
  · rw [if_pos h, if_pos (by omega), if_pos (by omega), decide_eq_true (by omega)]; simp
  · rw [if_neg h, decide_eq_false (by omega)]; rfl
theorem trimPre (a b : ByteArray) : ∃ c, QP.strings_TrimPrefix.f a b = some c ∧ c.data.toList = Lib.trimPrefix a.data.toList b.data.toList := by
  unfold QP.strings_TrimPrefix.f QP.stringslite_TrimPrefix.f
  have h := hasPre a b
  unfold QP.strings_HasPrefix.f at h
  cases hp : QP.stringslite_HasPrefix.f a b with
  | none => rw [hp] at h; cases h
  | some t =>
    rw [hp, Option.bind_some] at h
    obtain rfl : t = _ := Option.some.inj h
    rw [Option.bind_some]
    cases hq : Lib.hasPrefix a.data.toList b.data.toList with
    | false => exact ⟨a, rfl, by unfold Lib.trimPrefix; rw [hq]; rfl⟩
    | true =>
      have hl : b.size ≤ a.size := by
        have := Lib.hasPrefix_raw a b
        rw [hq] at this
        by_cases hle : b.size ≤ a.size
        · exact hle
        · rw [decide_eq_false hle] at this; cases this
      refine ⟨a.extract b.size a.size, ?_, ?_⟩
      · rw [if_pos rfl, if_pos (by omega), if_pos (by omega)]; simp
      · unfold Lib.trimPrefix
        rw [hq, if_pos rfl, Lib.extract_to_end, data_length]
theorem digs_eq (a : ByteArray) : Lib.trimPrefix a.data.toList [45] = digs a.data.toList := by
  unfold Lib.trimPrefix digs Lib.hasPrefix
  cases a.data.toList with
  | nil => rfl
  | cons x r =>
    by_cases h : x = 45
    · subst h; simp
    · have h1 : ([45] : List UInt8).isPrefixOf (x :: r) = false := by
        simp only [List.isPrefixOf, Bool.and_eq_false_iff, beq_eq_false_iff_ne]; exact .inl (fun e => h e.symm)
      rw [h1]; simp [h]
theorem isWhole_total (a : ByteArray) (ha : a.size ≤ 9223372036854775806) : ∃ k, QP.cnf_isWhole.f k a = some (wholeB a.data.toList) := by
  obtain ⟨d, h1, h2⟩ := trimPre a ⟨#[45]⟩
  have h3 : d.data.toList = digs a.data.toList := h2.trans (digs_eq a)
  have hds : d.size ≤ a.size := by
    rw [← data_length d, ← data_length a, h3]; unfold digs; split
    · rw [List.length_tail]; omega
    · exact Nat.le_refl _
  refine ⟨d.size + 2, ?_⟩
  unfold QP.cnf_isWhole.f
  rw [h1, Option.bind_some, Lib.toList_data, Lib.toList_data]
  unfold wholeB
  rw [← h3]
  by_cases hn : d.data.toList = []
  · rw [if_pos hn, hn]; rfl
  · rw [if_neg hn]
    have hp : 0 < d.data.toList.length := List.length_pos_iff.2 hn
    rw [if_pos (by rw [← data_length]; omega), decide_eq_true (show d.data.toList ≠ [] from hn)]
    have hb : bt d 0 = ((d.data.toList[0]).toNat : Int) := bt_L d 0 hp
    have hh : d.data.toList.head? = some d.data.toList[0] := List.head?_eq_getElem? .. |>.trans (List.getElem?_eq_getElem hp)
    have hL := whole_loop d (by omega) d.size 0 (by omega)
    rw [List.drop_zero] at hL
    rw [hh, hb]
    by_cases h48 : d.data.toList[0] = 48
    · rw [if_pos (by rw [h48]; rfl), h48]
      by_cases hw : a.data.toList = [48]
      · rw [hw]
        show QP.cnf_isWhole.j0 _ d false = _
        rw [QP.cnf_isWhole.j0, if_neg (by decide)]
        simpa using hL
      · have : (a.data.toList != [48]) = true := by rw [bne_iff_ne]; exact hw
        rw [this, QP.cnf_isWhole.j0, if_pos rfl]
        simp [hw]
    · have hne : ¬ ((d.data.toList[0]).toNat : Int) = 48 := fun e => h48 (UInt8.toNat_inj.1 (by have : ((48 : UInt8).toNat : Int) = 48 := rfl; omega))
      rw [if_neg hne, QP.cnf_isWhole.j0, if_neg (by decide)]
      rw [show ((0 : Nat) : Int) = 0 from rfl] at hL
      rw [hL]
      have h5 : decide (some d.data.toList[0] = some 48) = false := decide_eq_false (fun e => h48 (Option.some.inj e))
      rw [h5]; simp
theorem isWhole_any (a : ByteArray) (w : World) (ha : a.size ≤ 9223372036854775806) :
    Calls Tryz.prog 117 #[.string a] w fun e w' => e = .returned (.bool (wholeB a.data.toList)) ∧ Drawn0 w w' := by
  obtain ⟨k, h⟩ := isWhole_total a ha
  exact QP.cnf_isWhole.calls k a _ w h
end Go.Proofs.YtjfmoildblcjiaaGreatDoor.P1
end

section
/- What is proved here: the contract of cnf.whole. -/
namespace Go.Proofs.YtjfmoildblcjiaaGreatDoor.P2
open Go.RowKit Go.Proofs.YtjfmoildblcjiaaGreatDoorW.PrintWords Go.Proofs.YtjfmoildblcjiaaGreatDoorW.PrintLast Go.Proofs.YtjfmoildblcjiaaGreatDoorW.PrintMore Go.Proofs.YtjfmoildblcjiaaGreatDoor.H1 Go.Proofs.YtjfmoildblcjiaaGreatDoor.P1

theorem parseUint_dig : ∀ (l : List UInt8) (acc : Nat), l.all isDig = true → (∃ u, Lib.parseUint10 acc l = .ok u) ∨ Lib.parseUint10 acc l = .range
  | [], acc, _ => .inl ⟨acc, rfl⟩
  | c :: r, acc, h => by
    rw [List.all_cons, Bool.and_eq_true] at h
    have h1 : 48 ≤ c.toNat ∧ c.toNat ≤ 57 := by simpa [isDig] using h.1
    rw [Lib.parseUint10, if_pos h1]
    split
    · exact .inr rfl
    · split
      · exact .inr rfl
      · exact parseUint_dig r _ h.2
/-- Ten digits or fewer and more fit. -/
theorem parseUint_short : ∀ (l : List UInt8) (acc : Nat), l.all isDig = true → (acc + 1) * 10 ^ l.length ≤ 1000000000000000000 → ∃ u, Lib.parseUint10 acc l = .ok u ∧ u < 1000000000000000000
  | [], acc, _, h => ⟨acc, rfl, by simp at h; omega⟩
  | c :: r, acc, h, hb => by
    rw [List.all_cons, Bool.and_eq_true] at h
    have h1 : 48 ≤ c.toNat ∧ c.toNat ≤ 57 := by simpa [isDig] using h.1
    have hp : 0 < 10 ^ r.length := Nat.pow_pos (by decide)
    rw [List.length_cons, Nat.pow_succ] at hb
    have h2 : (acc * 10 + (c.toNat - 48) + 1) * 10 ^ r.length ≤ 1000000000000000000 := by
      refine Nat.le_trans ?_ hb
      rw [Nat.mul_comm (10 ^ r.length) 10, ← Nat.mul_assoc]
      exact Nat.mul_le_mul_right _ (by omega)
    have h3 : acc * 10 + (c.toNat - 48) + 1 ≤ 1000000000000000000 := Nat.le_trans (Nat.le_mul_of_pos_right _ hp) h2
    rw [Lib.parseUint10, if_pos h1, if_neg (by omega), if_neg (by omega)]
    exact parseUint_short r _ h.2 h2
theorem whole_parts {l : List UInt8} (h : wholeB l = true) : digs l ≠ [] ∧ (digs l).all isDig = true := by
  unfold wholeB at h
  simp only [Bool.and_eq_true, decide_eq_true_eq] at h
  exact ⟨h.1.1, h.2⟩
theorem atoi_digs {l : List UInt8} (h : wholeB l = true) : Lib.atoiAll l = (if l.head? = some 45 then Lib.signed (Lib.parseUint10 0 (digs l)) else Lib.signless (Lib.parseUint10 0 (digs l))) := by
  obtain ⟨h1, h2⟩ := whole_parts h
  unfold digs at *
  cases l with
  | nil => simp at h1
  | cons c r =>
    by_cases h45 : c = 45
    · subst h45
      simp only [List.head?_cons, if_true, List.tail_cons] at h1 h2 ⊢
      rw [Lib.atoiAll_minus, Lib.parseMag, if_neg h1]
    · have hn : ¬ (c :: r).head? = some 45 := fun e => h45 (Option.some.inj e)
      rw [if_neg hn] at h1 h2 ⊢
      rw [if_neg hn]
      have hd : isDig c = true := by rw [List.all_cons, Bool.and_eq_true] at h2; exact h2.1
      have hd' : 48 ≤ c.toNat ∧ c.toNat ≤ 57 := by simpa [isDig] using hd
      rw [Lib.atoiAll_plain c r (by omega) (fun e => h45 (UInt8.toNat_inj.1 e)), Lib.parseMag, if_neg h1]
theorem atoiAll_dig {l : List UInt8} (h : wholeB l = true) : (∃ v, Lib.atoiAll l = .ok v) ∨ Lib.atoiAll l = .range := by
  have h2 := parseUint_dig (digs l) 0 (whole_parts h).2
  rw [atoi_digs h]
  rcases h2 with ⟨u, hp⟩ | hp <;> rw [hp]
  case inr => split <;> exact .inr rfl
  case inl =>
    split
    · rw [Lib.signed]; split
      · exact .inr rfl
      · exact .inl ⟨_, rfl⟩
    · rw [Lib.signless]; split
      · exact .inr rfl
      · exact .inl ⟨_, rfl⟩
theorem atoiAll_short {l : List UInt8} (h : wholeB l = true) (hl : l.length ≤ 18) : ∃ v, Lib.atoiAll l = .ok v := by
  have hd : (digs l).length ≤ 18 := by unfold digs; split <;> (try rw [List.length_tail]) <;> omega
  obtain ⟨u, hu, hb⟩ := parseUint_short (digs l) 0 (whole_parts h).2 (by
    rw [Nat.zero_add, Nat.one_mul]
    exact Nat.le_trans (Nat.pow_le_pow_right (by decide) hd) (by decide))
  rw [atoi_digs h, hu]
  split
  · rw [Lib.signed, if_neg (by omega)]; exact ⟨_, rfl⟩
  · rw [Lib.signless, if_neg (by omega)]; exact ⟨_, rfl⟩

theorem below_atoi {w w1 : World} (h : w1 = w ∨ ∃ t, w1 = Lib.bytesWorld w 5 t) : Below w.heap.size w w1 := by
  rcases h with rfl | ⟨t, rfl⟩
  · exact Below.refl _ _
  · exact bytes_below (Below.refl _ _) (Nat.le_refl _) _ _
set_option maxHeartbeats 1000000 in
set_option maxRecDepth 100000 in
theorem whole_any (a : ByteArray) (w : World) (ha : a.size ≤ 262144) (hb : wholeB a.data.toList = true) (he : a.size ≤ 18 ∨ EVs w) :
    Calls Tryz.prog 118 #[.string a] w fun e w' => e = .returned (.int .i64 (wholeN a.data.toList)) ∧ Below w.heap.size w w' := by
  rcases atoiAll_dig hb with ⟨v, hv⟩ | hv
  · have HW : Aside0 (wholeN a.data.toList = v) := ⟨by unfold wholeN; rw [hv]⟩
    have HC := Aside0.mk (fun W => Tryz.strconv_Atoi_ok a (by omega) v hv W)
    clear hv hb he
    go_enter Tryz.func118, Tryz.ntmps118
    go_wp2_with ((with_reducible refine (HC.out _).mono ?_); rintro e w1 ⟨rfl, hw1⟩; have HB1 := Aside0.mk (below_atoi hw1); clear hw1)
    go_ret
    exact ⟨by rw [HW.out]; rfl, HB1.out⟩
  · have hev : EVs w := he.resolve_left (fun hl => by
      obtain ⟨v, h⟩ := atoiAll_short hb (by rw [data_length]; exact hl)
      rw [hv] at h; cases h)
    obtain ⟨ev, h1, h2⟩ := hev
    have HW : Aside0 (wholeN a.data.toList = 1099511627776) := ⟨by unfold wholeN; rw [hv]⟩
    have HC := Aside0.mk (Tryz.strconv_Atoi_range a (by omega) hv ev w h1 h2)
    have hneq := fun (W : World) (t : TypeId) (x : Value) => run_neq_held_nil (P := Tryz.prog) W 112 t x (by kernel_rfl)
    clear hv hb he h1 h2
    go_enter Tryz.func118, Tryz.ntmps118
    go_wp2_with ((with_reducible refine (HC.out).mono ?_); rintro e w1 ⟨N, rfl, hn1, hn2, hw1⟩; have HB1 := Aside0.mk hw1; clear hw1 hn1 hn2)
    go_ret
    exact ⟨by rw [HW.out]; rfl, HB1.out⟩
end Go.Proofs.YtjfmoildblcjiaaGreatDoor.P2
end

section
/- What is proved here: the contract of the reader's word. -/
namespace Go.Proofs.YtjfmoildblcjiaaGreatDoor.P3
open Go.RowKit Go.Proofs.YtjfmoildblcjiaaGreatDoorW.PrintWords Go.Proofs.YtjfmoildblcjiaaGreatDoorW.PrintLast Go.Proofs.YtjfmoildblcjiaaGreatDoorW.PrintMore Go.Proofs.YtjfmoildblcjiaaGreatDoor.H1 Go.Proofs.YtjfmoildblcjiaaGreatDoor.P1 Go.Proofs.YtjfmoildblcjiaaGreatDoor.P2

def WordPost (base g : Nat) (s : Rd) (l : List UInt8) (w : World) (e : Ending) (w' : World) : Prop :=
  e = .returned (.int .i64 (wordR s l).1) ∧ RdS w' base g (wordR s l).2 ∧ Below base w w' ∧ KeT TR w w'
theorem WordPost.same {base g : Nat} {s : Rd} {l : List UInt8} {w w' : World} {e : Ending} {k : Int} (hw : wordR s l = (k, s)) (he : e = .returned (.int .i64 k)) (hS : RdS w base g s) (hbase : base ≤ w.heap.size) (hb : Below w.heap.size w w') : WordPost base g s l w e w' := by
  unfold WordPost
  rw [hw]
  exact ⟨he, hS.below hb, hb.mono hbase, KeT.below hb⟩

set_option maxHeartbeats 4000000 in
set_option maxRecDepth 100000 in
theorem word_bad (base g : Nat) (s : Rd) (x : ByteArray) (w : World) (hS : RdS w base g s) (hG : RGood s) (hx : x.size ≤ 262144) (he : wholeB x.data.toList = true → x.size ≤ 18 ∨ EVs w) (hbase : base ≤ w.heap.size)
    (hk : (wordR s x.data.toList).1 ≠ 0) :
    Calls Tryz.prog 90 #[.pointer (some ⟨g, 0, none⟩), .string x] w (WordPost base g s x.data.toList w) := by
  have HS := Aside0.mk hS
  have HB := Aside0.mk hbase
  have HI := Aside0.mk (isWhole_any x w (by omega))
  obtain ⟨_, u, n, hg, hcs, hn⟩ := hS
  have HG := Aside0.mk hg
  have HE := Aside0.mk he
  obtain ⟨Au, cu, rfl⟩ := Kd.S_slice hcs
  obtain ⟨An, cn, rfl⟩ := Kd.R_slice hn
  cases hb : wholeB x.data.toList with
  | false =>
    have HW : Aside0 (wordR s x.data.toList = (3, s)) := ⟨by unfold wordR; rw [if_pos hb]⟩
    have HBB := Aside0.mk hb
    clear hb hg hcs hn he hk hbase hx
    go_enter Tryz.func90, Tryz.ntmps90
    go_wp2_with ((with_reducible refine (HI.out).mono ?_); rintro e w1 ⟨rfl, ⟨m, rfl⟩⟩; rw [HBB.out])
    go_ret
    exact WordPost.same HW.out rfl HS.out HB.out (pw_below_drewN (Below.refl _ _) _)
  | true =>
    have HBB := Aside0.mk hb
    have HWH := Aside0.mk (fun W hW => whole_any x W hx hb (hW : x.size ≤ 18 ∨ EVs W))
    have hv0 := hG.v0
    have hv1 := hG.v1
    have hm1 := hG.m1
    have hc1 := hG.c1
    have hE := he hb
    have HEE : Aside0 (∀ W, Below w.heap.size w W → x.size ≤ 18 ∨ EVs W) := ⟨fun W hW => hE.imp id (fun h => h.below hW)⟩
    clear hE he
    have hu : wordR s x.data.toList = (if wholeN x.data.toList < -s.v then (141, s) else if wholeN x.data.toList > s.v then (141, s)
      else if s.op = false ∧ (s.cs.length : Int) = s.many then (41, s) else if wholeN x.data.toList ≠ 0 ∧ (s.now.length : Int) = 16384 then (2, s)
      else if wholeN x.data.toList = 0 then (0, { s with cs := s.cs ++ [s.now], now := [], op := false }) else (0, { s with now := s.now ++ [wholeN x.data.toList], op := true })) := by
      unfold wordR; rw [if_neg (by rw [hb]; decide)]
    have hk0 : w.cell? ⟨g, 0, none⟩ = some (.int .i64 s.v) := by simp [World.cell?, hg]
    have hk1 : w.cell? ⟨g, 1, none⟩ = some (.slice Au s.cs.length cu) := by simp [World.cell?, hg]
    have hk2 : w.cell? ⟨g, 2, none⟩ = some (.int .i64 s.many) := by simp [World.cell?, hg]
    have hk3 : w.cell? ⟨g, 3, none⟩ = some (.slice An s.now.length cn) := by simp [World.cell?, hg]
    have hk4 : w.cell? ⟨g, 4, none⟩ = some (.bool s.op) := by simp [World.cell?, hg]
    have HK : Aside0 (∀ W, Below w.heap.size w W → W.cell? ⟨g, 0, none⟩ = some (.int .i64 s.v) ∧ W.cell? ⟨g, 1, none⟩ = some (.slice Au s.cs.length cu) ∧ W.cell? ⟨g, 2, none⟩ = some (.int .i64 s.many) ∧ W.cell? ⟨g, 3, none⟩ = some (.slice An s.now.length cn) ∧ W.cell? ⟨g, 4, none⟩ = some (.bool s.op)) :=
      ⟨fun W hW => ⟨pw_cell_below hW hk0, pw_cell_below hW hk1, pw_cell_below hW hk2, pw_cell_below hW hk3, pw_cell_below hW hk4⟩⟩
    clear hk0 hk1 hk2 hk3 hk4 hg hb hcs hn
    generalize hN : wholeN x.data.toList = N at *
    clear hN
    obtain ⟨v, cs, many, now, op⟩ := s
    dsimp only at *
    by_cases h1 : N < -v
    · rw [if_pos h1] at hu
      have HU := Aside0.mk hu
      have d1 : decide (N < -v) = true := decide_eq_true h1
      cases op
      all_goals
        by_cases hz : N = 0
        · omega
        have dz : (N == 0) = false := beq_eq_false_iff_ne.2 hz
        clear hu hk hz h1
        go_enter Tryz.func90, Tryz.ntmps90
        go_wp2_with (first | ((with_reducible refine (HI.out).mono ?_); rintro e w1 ⟨rfl, ⟨m, rfl⟩⟩; rw [HBB.out]) | ((with_reducible refine (HWH.out _ (HEE.out _ (pw_below_drewN (Below.refl _ _) _))).mono ?_); rintro e w1 ⟨rfl, hb1⟩; have HB1 : Aside0 (Below w.heap.size w w1) := ⟨(pw_below_drewN (Below.refl _ _) _).trans hb1⟩; clear hb1; obtain ⟨g0, g1, g2, g3, g4⟩ := HK.out _ HB1.out))
        go_ret
        exact WordPost.same HU.out rfl HS.out HB.out HB1.out
    · rw [if_neg h1] at hu
      have d1 : decide (N < -v) = false := decide_eq_false h1
      by_cases h2 : N > v
      · rw [if_pos h2] at hu
        have HU := Aside0.mk hu
        have d2 : decide (N > v) = true := decide_eq_true h2
        cases op
        all_goals
          by_cases hz : N = 0
          · omega
          have dz : (N == 0) = false := beq_eq_false_iff_ne.2 hz
          clear hu hk hz h1 h2
          go_enter Tryz.func90, Tryz.ntmps90
          go_wp2_with (first | ((with_reducible refine (HI.out).mono ?_); rintro e w1 ⟨rfl, ⟨m, rfl⟩⟩; rw [HBB.out]) | ((with_reducible refine (HWH.out _ (HEE.out _ (pw_below_drewN (Below.refl _ _) _))).mono ?_); rintro e w1 ⟨rfl, hb1⟩; have HB1 : Aside0 (Below w.heap.size w w1) := ⟨(pw_below_drewN (Below.refl _ _) _).trans hb1⟩; clear hb1; obtain ⟨g0, g1, g2, g3, g4⟩ := HK.out _ HB1.out))
          go_ret
          exact WordPost.same HU.out rfl HS.out HB.out HB1.out
      · rw [if_neg h2] at hu
        have d2 : decide (N > v) = false := decide_eq_false h2
        by_cases h3 : op = false ∧ (cs.length : Int) = many
        · rw [if_pos h3] at hu
          have HU := Aside0.mk hu
          obtain ⟨rfl, h3⟩ := h3
          have d3 : ((cs.length : Int) == many) = true := beq_iff_eq.2 h3
          by_cases hz : N = 0
          all_goals
            first | have dz : (N == 0) = false := beq_eq_false_iff_ne.2 hz | have dz : (N == 0) = true := beq_iff_eq.2 hz
            clear hu hk hz h1 h2 h3
            go_enter Tryz.func90, Tryz.ntmps90
            go_wp2_with (first | ((with_reducible refine (HI.out).mono ?_); rintro e w1 ⟨rfl, ⟨m, rfl⟩⟩; rw [HBB.out]) | ((with_reducible refine (HWH.out _ (HEE.out _ (pw_below_drewN (Below.refl _ _) _))).mono ?_); rintro e w1 ⟨rfl, hb1⟩; have HB1 : Aside0 (Below w.heap.size w w1) := ⟨(pw_below_drewN (Below.refl _ _) _).trans hb1⟩; clear hb1; obtain ⟨g0, g1, g2, g3, g4⟩ := HK.out _ HB1.out))
            go_quiet (fail)
            go_wp2
            go_ret
            exact WordPost.same HU.out rfl HS.out HB.out (pw_below_drewN HB1.out _)
        · rw [if_neg h3] at hu
          by_cases h4 : N ≠ 0 ∧ (now.length : Int) = 16384
          · rw [if_pos h4] at hu
            have HU := Aside0.mk hu
            obtain ⟨hz, h4⟩ := h4
            have d4 : ((now.length : Int) == 16384) = true := beq_iff_eq.2 h4
            have dz : (N == 0) = false := beq_eq_false_iff_ne.2 hz
            have dz' : (N != 0) = true := bne_iff_ne.2 hz
            cases op
            · have d3 : ((cs.length : Int) == many) = false := beq_eq_false_iff_ne.2 (fun e => h3 ⟨rfl, e⟩)
              clear hu hk hz h1 h2 h3 h4
              go_enter Tryz.func90, Tryz.ntmps90
              go_wp2_with (first | ((with_reducible refine (HI.out).mono ?_); rintro e w1 ⟨rfl, ⟨m, rfl⟩⟩; rw [HBB.out]) | ((with_reducible refine (HWH.out _ (HEE.out _ (pw_below_drewN (Below.refl _ _) _))).mono ?_); rintro e w1 ⟨rfl, hb1⟩; have HB1 : Aside0 (Below w.heap.size w w1) := ⟨(pw_below_drewN (Below.refl _ _) _).trans hb1⟩; clear hb1; obtain ⟨g0, g1, g2, g3, g4⟩ := HK.out _ HB1.out))
              go_quiet (fail)
              go_wp2
              go_ret
              exact WordPost.same HU.out rfl HS.out HB.out (pw_below_drewN HB1.out _)
            · clear hu hk hz h1 h2 h3 h4
              go_enter Tryz.func90, Tryz.ntmps90
              go_wp2_with (first | ((with_reducible refine (HI.out).mono ?_); rintro e w1 ⟨rfl, ⟨m, rfl⟩⟩; rw [HBB.out]) | ((with_reducible refine (HWH.out _ (HEE.out _ (pw_below_drewN (Below.refl _ _) _))).mono ?_); rintro e w1 ⟨rfl, hb1⟩; have HB1 : Aside0 (Below w.heap.size w w1) := ⟨(pw_below_drewN (Below.refl _ _) _).trans hb1⟩; clear hb1; obtain ⟨g0, g1, g2, g3, g4⟩ := HK.out _ HB1.out))
              go_quiet (fail)
              go_wp2
              go_ret
              exact WordPost.same HU.out rfl HS.out HB.out (pw_below_drewN HB1.out _)
          · rw [if_neg h4] at hu
            by_cases h5 : N = 0
            · rw [if_pos h5] at hu; rw [hu] at hk; exact absurd rfl hk
            · rw [if_neg h5] at hu; rw [hu] at hk; exact absurd rfl hk
end Go.Proofs.YtjfmoildblcjiaaGreatDoor.P3
end

section
/- What is proved here: the contract of the reader's word (the word is taken). -/
namespace Go.Proofs.YtjfmoildblcjiaaGreatDoor.P4
open Go.RowKit Go.Proofs.YtjfmoildblcjiaaGreatDoorW.PrintWords Go.Proofs.YtjfmoildblcjiaaGreatDoorW.PrintLast Go.Proofs.YtjfmoildblcjiaaGreatDoorW.PrintMore Go.Proofs.YtjfmoildblcjiaaGreatDoor.H1 Go.Proofs.YtjfmoildblcjiaaGreatDoor.P1 Go.Proofs.YtjfmoildblcjiaaGreatDoor.P2 Go.Proofs.YtjfmoildblcjiaaGreatDoor.P3

theorem info_int : (Tryz.prog.info? 3).map (fun i => (i.zero, i.size, i.bytes)) = some (some (.int .i64 0), 1, 8) := by kernel_rfl
theorem info_clause : (Tryz.prog.info? 65).map (fun i => (i.zero, i.size, i.bytes)) = some (some (.slice none 0 0), 1, 24) := by kernel_rfl
theorem E_cl : ∀ q, q ∈ 65 :: (Kd.slice 3 (Kd.int .i64)).E → q ≠ 67 := by
  intro q hq
  simp only [Kd.slice, Kd.int, Kd.scalar, List.mem_cons, List.not_mem_nil, or_false] at hq
  rcases hq with rfl | rfl <;> decide
theorem E_in : ∀ q, q ∈ 3 :: (Kd.int .i64).E → q ≠ 67 := by
  intro q hq
  simp only [Kd.int, Kd.scalar, List.mem_cons, List.not_mem_nil, or_false] at hq
  rcases hq with rfl; decide
theorem RdS.app {w w9 : World} {base g : Nat} {s : Rd} {u n v1 : Value} {x : Int} (h0 : base ≤ g) (hg : w.heap[g]? = some (.cells #[.int .i64 s.v, u, .int .i64 s.many, n, .bool s.op] 67 (0, 0)))
    (hs : Kd.S (Kd.slice 3 (Kd.int .i64)) 65 w base (fun k => True ∧ some k ≠ n.ownBlock) u s.cs) (hr : Kd.R (Kd.int .i64) 3 w base (fun _ => True) n s.now)
    (ho : Kd.R (Kd.int .i64) 3 w9 base (fun _ => True) v1 (s.now ++ [x])) (hgr : w.grownBy w9 n.ownBlock) (hat : v1.ownBlock = n.ownBlock ∨ ∃ b, v1.ownBlock = some b ∧ w.heap.size ≤ b) :
    w9.heap[g]? = some (.cells #[.int .i64 s.v, u, .int .i64 s.many, n, .bool s.op] 67 (0, 0)) ∧ RdS (w9.setCell ⟨g, 3, none⟩ v1) base g { s with now := s.now ++ [x] } := by
  have hg9 : w9.heap[g]? = _ := blk_grown hg hgr (Kd.R_ne hr hg (by decide))
  have hs9 := Kd.S_after hs hgr hat
  exact ⟨hg9, h0, u, v1, by simpa using blk_set hg9 3 v1, Kd.S_set hs9 hg9 E_cl 3 _, Kd.R_set ho hg9 E_in 3 _⟩
theorem RdS.parts {w : World} {base g : Nat} {s : Rd} (h : RdS w base g s) : ∃ A c A1 c1, w.heap[g]? = some (.cells #[.int .i64 s.v, .slice A s.cs.length c, .int .i64 s.many, .slice A1 s.now.length c1, .bool s.op] 67 (0, 0)) ∧
    Kd.S (Kd.slice 3 (Kd.int .i64)) 65 w base (fun k => True ∧ some k ≠ (Value.slice A1 s.now.length c1).ownBlock) (.slice A s.cs.length c) s.cs ∧ Kd.R (Kd.int .i64) 3 w base (fun _ => True) (.slice A1 s.now.length c1) s.now := by
  obtain ⟨_, u, n, hg, hs, hr⟩ := h
  obtain ⟨Au, cu, rfl⟩ := Kd.S_slice hs
  obtain ⟨An, cn, rfl⟩ := Kd.R_slice hr
  exact ⟨Au, cu, An, cn, hg, hs, hr⟩
theorem five {w : World} {g t : Nat} {a b c d e : Value} (h : w.heap[g]? = some (.cells #[a, b, c, d, e] t (0, 0))) : w.cell? ⟨g, 0, none⟩ = some a ∧ w.cell? ⟨g, 1, none⟩ = some b ∧ w.cell? ⟨g, 2, none⟩ = some c ∧ w.cell? ⟨g, 3, none⟩ = some d ∧ w.cell? ⟨g, 4, none⟩ = some e ∧
    (∀ i, w.frozen? ⟨g, i, none⟩ = false) :=
  ⟨(blk_cell h 0).trans rfl, (blk_cell h 1).trans rfl, (blk_cell h 2).trans rfl, (blk_cell h 3).trans rfl, (blk_cell h 4).trans rfl, fun i => blk_frozen h i⟩
theorem KeT.grown {w W w' : World} {α : Type} {base e : Nat} {d : Kd α} {ok : Nat → Prop} {v : Value} {xs : List α} {T : List Nat} (h : KeT T w W) (hr : Kd.R d e W base ok v xs) (he : e ∈ T) (hg : W.grownBy w' v.ownBlock) : KeT T w w' := h.trans (KeT.row hr he hg)

theorem parts_set {w : World} {base g : Nat} {s : Rd} {u n : Value} {b0 : Bool} (hg : w.heap[g]? = some (.cells #[.int .i64 s.v, u, .int .i64 s.many, n, .bool b0] 67 (0, 0)))
    (hs : Kd.S (Kd.slice 3 (Kd.int .i64)) 65 w base (fun k => True ∧ some k ≠ n.ownBlock) u s.cs) (hr : Kd.R (Kd.int .i64) 3 w base (fun _ => True) n s.now) (m : Nat) (b : Bool) :
    ((w.drewN m).setCell ⟨g, 4, none⟩ (.bool b)).heap[g]? = some (.cells #[.int .i64 s.v, u, .int .i64 s.many, n, .bool b] 67 (0, 0)) ∧
    Kd.S (Kd.slice 3 (Kd.int .i64)) 65 ((w.drewN m).setCell ⟨g, 4, none⟩ (.bool b)) base (fun k => True ∧ some k ≠ n.ownBlock) u s.cs ∧ Kd.R (Kd.int .i64) 3 ((w.drewN m).setCell ⟨g, 4, none⟩ (.bool b)) base (fun _ => True) n s.now :=
  ⟨by simpa using blk_set (show (w.drewN m).heap[g]? = _ from hg) 4 (.bool b), Kd.S_set (Kd.S_drewN hs m) hg E_cl 4 _, Kd.R_set (Kd.R_below hr (pw_below_drewN (Below.refl _ _) m)) hg E_in 4 _⟩

set_option maxHeartbeats 4000000 in
set_option maxRecDepth 100000 in
theorem word_lit (base g : Nat) (s : Rd) (x : ByteArray) (w : World) (hS : RdS w base g s) (hG : RGood s) (hx : x.size ≤ 262144) (hb : wholeB x.data.toList = true) (he : x.size ≤ 18 ∨ EVs w) (hbase : base ≤ w.heap.size)
    (h1 : ¬ wholeN x.data.toList < -s.v) (h2 : ¬ wholeN x.data.toList > s.v) (h3 : ¬ (s.op = false ∧ (s.cs.length : Int) = s.many)) (h4 : ¬ (s.now.length : Int) = 16384) (h5 : wholeN x.data.toList ≠ 0) :
    Calls Tryz.prog 90 #[.pointer (some ⟨g, 0, none⟩), .string x] w (WordPost base g s x.data.toList w) := by
  have HS := Aside0.mk hS
  have HBG := Aside0.mk hS.1
  have HB := Aside0.mk hbase
  have HI := Aside0.mk (isWhole_any x w (by omega))
  have HBB := Aside0.mk hb
  have HWH := Aside0.mk (fun W hW => whole_any x W hx hb (hW : x.size ≤ 18 ∨ EVs W))
  have HEE : Aside0 (∀ W, Below w.heap.size w W → x.size ≤ 18 ∨ EVs W) := ⟨fun W hW => he.imp id (fun h => h.below hW)⟩
  have HU : Aside0 (wordR s x.data.toList = (0, { s with now := s.now ++ [wholeN x.data.toList], op := true })) := ⟨by
    unfold wordR; rw [if_neg (by rw [hb]; decide), if_neg h1, if_neg h2, if_neg h3, if_neg (fun h => h4 h.2), if_neg h5]⟩
  have hv0 := hG.v0
  have hv1 := hG.v1
  have hn1 := hG.n1
  clear hS hbase hb he hG
  generalize wholeN x.data.toList = N at *
  have d1 : decide (N < -s.v) = false := decide_eq_false h1
  have d2 : decide (N > s.v) = false := decide_eq_false h2
  have dz : (N == 0) = false := beq_eq_false_iff_ne.2 h5
  have dz' : (N != 0) = true := bne_iff_ne.2 h5
  have d4 : ((s.now.length : Int) == 16384) = false := beq_eq_false_iff_ne.2 h4
  have HN1 := Aside0.mk hn1
  cases hop : s.op with
  | false =>
    have d3 : ((s.cs.length : Int) == s.many) = false := beq_eq_false_iff_ne.2 (fun e => h3 ⟨hop, e⟩)
    have HOP := Aside0.mk hop
    clear h1 h2 h3 h4 h5 hop hn1
    go_enter Tryz.func90, Tryz.ntmps90
    go_wp2_with (first | ((with_reducible refine (HI.out).mono ?_); rintro e w1 ⟨rfl, ⟨m, rfl⟩⟩; rw [HBB.out]) | ((with_reducible refine (HWH.out _ (HEE.out _ (pw_below_drewN (Below.refl _ _) _))).mono ?_); rintro e w1 ⟨rfl, hb1⟩; have HB1 : Aside0 (Below w.heap.size w w1) := ⟨(pw_below_drewN (Below.refl _ _) _).trans hb1⟩; clear hb1; obtain ⟨A0, c0, A1, c1, hg, hs, hr⟩ := RdS.parts (HS.out.below HB1.out); rw [HOP.out] at hg; have HG := Aside0.mk hg; have HSS := Aside0.mk hs; have HR := Aside0.mk hr; clear hs hr; obtain ⟨g0, g1, g2, g3, g4, g5⟩ := five hg; clear hg))
    go_quiet (fail)
    have HP := Aside0.mk (parts_set HG.out HSS.out HR.out nq true)
    go_wp2_with ((with_reducible refine gate_builtin (b := .append) (xs := #[.tmp 104, .tmp 106]) rfl ?_); at_builtin; refine Kd.R_append (Kd.int .i64) (w0 := w) base rfl (.tmp 104) (.tmp 106) 65 3 (.int .i64 0) 8 rfl Tryz.underlying65 info_int rfl (by decide) (by omega) (.slice A1 s.now.length c1) s.now N [.int .i64 N] (fun _ => True) (fun _ => False) rfl ?aX ?aP (fun _ hk => hk.elim) ?aF ?aO ?aB ?aS ?aL ?_; (case aX => first | exact rfl | (simp; done) | (simp [Act.eval]; done)); (case aP => exact rfl); (case aF => exact (fun _ _ => trivial)); (case aO => exact HP.out.2.2); (case aB => exact (pw_below_drewN (HB1.out.mono HB.out) _).setCell HBG.out _); (case aS => have h1 := HB1.out.size; have h2 := HB.out; simp [World.setCell]; omega); (case aL => have := HN1.out; omega); intro v1 w9 ho hb9 hg9 hat; have HA := Aside0.mk (RdS.app (s := { s with op := true }) HBG.out HP.out.1 HP.out.2.1 HP.out.2.2 ho hg9 hat); have HB9 := Aside0.mk hb9; have HK9 : Aside0 (KeT TR w w9) := ⟨KeT.grown ((KeT.below (pw_below_drewN HB1.out _)).trans (KeT.set (show (w1.drewN nq).heap[g]? = _ from HG.out) (by decide) 4 _)) HP.out.2.2 (by decide) hg9⟩; obtain ⟨A9, c9, rfl⟩ := Kd.R_slice ho; clear ho hb9 hg9 hat g0 g1 g2 g3 g4 g5; obtain ⟨g0, g1, g2, g3, g4, g5⟩ := five HA.out.1)
    go_ret
    unfold WordPost
    rw [HU.out]
    exact ⟨rfl, by have h := HA.out.2; rwa [show (s.now ++ [N]).length = s.now.length + 1 by simp] at h, HB9.out.setCell HBG.out _, HK9.out.trans (KeT.set HA.out.1 (by decide) 3 _)⟩
  | true =>
    have HOP := Aside0.mk hop
    clear h1 h2 h3 h4 h5 hop hn1
    go_enter Tryz.func90, Tryz.ntmps90
    go_wp2_with (first | ((with_reducible refine (HI.out).mono ?_); rintro e w1 ⟨rfl, ⟨m, rfl⟩⟩; rw [HBB.out]) | ((with_reducible refine (HWH.out _ (HEE.out _ (pw_below_drewN (Below.refl _ _) _))).mono ?_); rintro e w1 ⟨rfl, hb1⟩; have HB1 : Aside0 (Below w.heap.size w w1) := ⟨(pw_below_drewN (Below.refl _ _) _).trans hb1⟩; clear hb1; obtain ⟨A0, c0, A1, c1, hg, hs, hr⟩ := RdS.parts (HS.out.below HB1.out); rw [HOP.out] at hg; have HG := Aside0.mk hg; have HSS := Aside0.mk hs; have HR := Aside0.mk hr; clear hs hr; obtain ⟨g0, g1, g2, g3, g4, g5⟩ := five hg; clear hg))
    go_quiet (fail)
    have HP : Aside0 (RdS (w1.drewN nq) base g s) := ⟨(HS.out.below HB1.out).below (pw_below_drewN (Below.refl _ _) _)⟩
    have HG2 : Aside0 ((w1.drewN nq).heap[g]? = some (.cells #[.int .i64 s.v, .slice A0 s.cs.length c0, .int .i64 s.many, .slice A1 s.now.length c1, .bool s.op] 67 (0, 0))) := ⟨by rw [HOP.out]; exact HG.out⟩
    go_wp2_with ((with_reducible refine gate_builtin (b := .append) (xs := #[.tmp 104, .tmp 106]) rfl ?_); at_builtin; refine Kd.R_append (Kd.int .i64) (w0 := w) base rfl (.tmp 104) (.tmp 106) 65 3 (.int .i64 0) 8 rfl Tryz.underlying65 info_int rfl (by decide) (by omega) (.slice A1 s.now.length c1) s.now N [.int .i64 N] (fun _ => True) (fun _ => False) rfl ?aX ?aP (fun _ hk => hk.elim) ?aF ?aO ?aB ?aS ?aL ?_; (case aX => first | exact rfl | (simp; done) | (simp [Act.eval]; done)); (case aP => exact rfl); (case aF => exact (fun _ _ => trivial)); (case aO => exact Kd.R_below HR.out (pw_below_drewN (Below.refl _ _) _)); (case aB => exact (pw_below_drewN (HB1.out.mono HB.out) _)); (case aS => have h1 := HB1.out.size; have h2 := HB.out; simp; omega); (case aL => have := HN1.out; omega); intro v1 w9 ho hb9 hg9 hat; have HA := Aside0.mk (RdS.app (s := s) HBG.out HG2.out (Kd.S_drewN HSS.out nq) (Kd.R_below HR.out (pw_below_drewN (Below.refl _ _) _)) ho hg9 hat); have HB9 := Aside0.mk hb9; have HK9 : Aside0 (KeT TR w w9) := ⟨KeT.grown (KeT.below (pw_below_drewN HB1.out _)) (Kd.R_below HR.out (pw_below_drewN (Below.refl _ _) _)) (by decide) hg9⟩; obtain ⟨A9, c9, rfl⟩ := Kd.R_slice ho; clear ho hb9 hg9 hat g0 g1 g2 g3 g4 g5; obtain ⟨g0, g1, g2, g3, g4, g5⟩ := five HA.out.1)
    go_ret
    unfold WordPost
    rw [HU.out]
    exact ⟨rfl, by have h := HA.out.2; rw [show (s.now ++ [N]).length = s.now.length + 1 by simp] at h; rw [HOP.out] at h; exact h, HB9.out.setCell HBG.out _, HK9.out.trans (KeT.set HA.out.1 (by decide) 3 _)⟩

theorem RdS.put {W w9 : World} {base g : Nat} {s : Rd} {u n v1 : Value} {b : Bool} (h0 : base ≤ g) (hg : W.heap[g]? = some (.cells #[.int .i64 s.v, u, .int .i64 s.many, n, .bool b] 67 (0, 0)))
    (hs : Kd.S (Kd.slice 3 (Kd.int .i64)) 65 W base (fun k => True ∧ some k ≠ n.ownBlock) u s.cs)
    (ho : Kd.S (Kd.slice 3 (Kd.int .i64)) 65 w9 base (fun _ => True) v1 (s.cs ++ [s.now])) (hgr : W.grownBy w9 u.ownBlock) :
    w9.heap[g]? = some (.cells #[.int .i64 s.v, u, .int .i64 s.many, n, .bool b] 67 (0, 0)) ∧
    (w9.setCell ⟨g, 1, none⟩ v1).heap[g]? = some (.cells #[.int .i64 s.v, v1, .int .i64 s.many, n, .bool b] 67 (0, 0)) ∧
    RdS (((w9.setCell ⟨g, 1, none⟩ v1).setCell ⟨g, 3, none⟩ (.slice none 0 0)).setCell ⟨g, 4, none⟩ (.bool false)) base g { s with cs := s.cs ++ [s.now], now := [], op := false } ∧
    KeT TR w9 (((w9.setCell ⟨g, 1, none⟩ v1).setCell ⟨g, 3, none⟩ (.slice none 0 0)).setCell ⟨g, 4, none⟩ (.bool false)) := by
  have hg9 : w9.heap[g]? = _ := blk_grown hg hgr (Kd.S_ne hs hg (by decide))
  have hg1 : (w9.setCell ⟨g, 1, none⟩ v1).heap[g]? = some (.cells #[.int .i64 s.v, v1, .int .i64 s.many, n, .bool b] 67 (0, 0)) := by simpa using blk_set hg9 1 v1
  have hg3 : ((w9.setCell ⟨g, 1, none⟩ v1).setCell ⟨g, 3, none⟩ (.slice none 0 0)).heap[g]? = some (.cells #[.int .i64 s.v, v1, .int .i64 s.many, .slice none 0 0, .bool b] 67 (0, 0)) := by simpa using blk_set hg1 3 (.slice none 0 0)
  refine ⟨hg9, hg1, ⟨h0, v1, .slice none 0 0, by simpa using blk_set hg3 4 (.bool false), ?_, Kd.R_nil _ _ _ _ _⟩, ((KeT.set hg9 (by decide) 1 _).trans (KeT.set hg1 (by decide) 3 _)).trans (KeT.set hg3 (by decide) 4 _)⟩
  exact Kd.S_set (Kd.S_set (Kd.S_set (Kd.S_apart_nil ho) hg9 E_cl 1 _) hg1 E_cl 3 _) hg3 E_cl 4 _

set_option maxHeartbeats 4000000 in
set_option maxRecDepth 100000 in
theorem word_end (base g : Nat) (s : Rd) (x : ByteArray) (w : World) (hS : RdS w base g s) (hG : RGood s) (hx : x.size ≤ 262144) (hb : wholeB x.data.toList = true) (he : x.size ≤ 18 ∨ EVs w) (hbase : base ≤ w.heap.size)
    (h3 : ¬ (s.op = false ∧ (s.cs.length : Int) = s.many)) (h5 : wholeN x.data.toList = 0) :
    Calls Tryz.prog 90 #[.pointer (some ⟨g, 0, none⟩), .string x] w (WordPost base g s x.data.toList w) := by
  have HS := Aside0.mk hS
  have HBG := Aside0.mk hS.1
  have HB := Aside0.mk hbase
  have HI := Aside0.mk (isWhole_any x w (by omega))
  have HBB := Aside0.mk hb
  have HWH := Aside0.mk (fun W hW => whole_any x W hx hb (hW : x.size ≤ 18 ∨ EVs W))
  have HEE : Aside0 (∀ W, Below w.heap.size w W → x.size ≤ 18 ∨ EVs W) := ⟨fun W hW => he.imp id (fun h => h.below hW)⟩
  have hv0 := hG.v0
  have hv1 := hG.v1
  have HCL : Aside0 (s.cs.length ≤ 524288) := ⟨by have h1 := hG.c1; have h2 := hG.m1; omega⟩
  have HU : Aside0 (wordR s x.data.toList = (0, { s with cs := s.cs ++ [s.now], now := [], op := false })) := ⟨by
    unfold wordR; rw [if_neg (by rw [hb]; decide), if_neg (by rw [h5]; omega), if_neg (by rw [h5]; omega), if_neg h3, if_neg (fun h => h.1 h5), if_pos h5]⟩
  have HNO : Aside0 (s.op = false → s.now = []) := ⟨hG.n2⟩
  rw [h5] at HWH
  clear hS hbase hb he hG h5
  have d1 : decide ((0 : Int) < -s.v) = false := decide_eq_false (by omega)
  have d2 : decide ((0 : Int) > s.v) = false := decide_eq_false (by omega)
  cases hop : s.op with
  | true =>
    have HOP := Aside0.mk hop
    clear h3 hop
    go_enter Tryz.func90, Tryz.ntmps90
    go_wp2_with (first | ((with_reducible refine (HI.out).mono ?_); rintro e w1 ⟨rfl, ⟨m, rfl⟩⟩; rw [HBB.out]) | ((with_reducible refine (HWH.out _ (HEE.out _ (pw_below_drewN (Below.refl _ _) _))).mono ?_); rintro e w1 ⟨rfl, hb1⟩; have HB1 : Aside0 (Below w.heap.size w w1) := ⟨(pw_below_drewN (Below.refl _ _) _).trans hb1⟩; clear hb1; obtain ⟨A0, c0, A1, c1, hg, hs, hr⟩ := RdS.parts (HS.out.below HB1.out); rw [HOP.out] at hg; have HG := Aside0.mk hg; have HSS := Aside0.mk hs; have HR := Aside0.mk hr; clear hs hr; obtain ⟨g0, g1, g2, g3, g4, g5⟩ := five hg; clear hg))
    go_quiet (fail)
    go_wp2
    obtain ⟨W2, hW2⟩ : ∃ W2, W2 = w1.drewN nq := ⟨_, rfl⟩
    rw [← hW2]
    have HG2 : Aside0 (W2.heap[g]? = some (.cells #[.int .i64 s.v, .slice A0 s.cs.length c0, .int .i64 s.many, .slice A1 s.now.length c1, .bool true] 67 (0, 0))) := ⟨by rw [hW2]; exact HG.out⟩
    have HSS2 : Aside0 (Kd.S (Kd.slice 3 (Kd.int .i64)) 65 W2 base (fun k => True ∧ some k ≠ (Value.slice A1 s.now.length c1).ownBlock) (.slice A0 s.cs.length c0) s.cs) := ⟨by rw [hW2]; exact Kd.S_drewN HSS.out nq⟩
    have HR2 : Aside0 (Kd.R (Kd.int .i64) 3 W2 base (fun _ => True) (.slice A1 s.now.length c1) s.now) := ⟨by rw [hW2]; exact Kd.R_below HR.out (pw_below_drewN (Below.refl _ _) _)⟩
    have HB2 : Aside0 (Below base w W2) := ⟨by rw [hW2]; exact pw_below_drewN (HB1.out.mono HB.out) _⟩
    have HK2 : Aside0 (KeT TR w W2) := ⟨by rw [hW2]; exact KeT.below (pw_below_drewN HB1.out _)⟩
    have HZ2 : Aside0 (base ≤ W2.heap.size) := ⟨Nat.le_trans HBG.out (Nat.le_of_lt (Array.getElem?_eq_some_iff.1 HG2.out).1)⟩
    clear hW2 g0 g1 g2 g3 g4 g5
    obtain ⟨g0, g1, g2, g3, g4, g5⟩ := five HG2.out
    have g6 : ∀ o, (W2.alloc o).cell? ⟨g, 1, none⟩ = some (.slice A0 s.cs.length c0) := fun o => pw_cell_below (below_alloc (Below.refl _ _) _) g1
    have g7 : ∀ o, (W2.alloc o).cell? ⟨g, 3, none⟩ = some (.slice A1 s.now.length c1) := fun o => pw_cell_below (below_alloc (Below.refl _ _) _) g3
    have HOK : Aside0 (∀ k, some k = (Value.slice A1 s.now.length c1).ownBlock → True ∧ some k ≠ (Value.slice A0 s.cs.length c0).ownBlock) := ⟨fun k hk => ⟨trivial, fun e => by obtain ⟨i1, h1⟩ := Kd.S_own HSS2.out; obtain ⟨i2, h2⟩ := Kd.R_own HR2.out; obtain ⟨c3, h3⟩ := own_typed h1 k e.symm; obtain ⟨c4, h4⟩ := own_typed h2 k hk.symm; rw [h3] at h4; cases h4⟩⟩
    go_region_law (first
      | (refine Kd.S_append_step (Kd.slice 3 (Kd.int .i64)) (w0 := w) (W := W2.drew) base ?hw (.tmp 81) (.tmp 86) 22 65 (.slice none 0 0) 24 rfl Tryz.underlying22 info_clause rfl Nat.one_pos (by decide) (.slice A0 s.cs.length c0) s.cs s.now [.slice A1 s.now.length c1] (fun _ => True) (fun k => some k = (Value.slice A1 s.now.length c1).ownBlock) rfl rfl ?hp ?hokp (fun _ _ => trivial) ?HO ?HB ?hbase ?hl ?_; (case hw => rfl); (case hp => exact ⟨_, rfl, Kd.R_tight rfl (Kd.R_below HR2.out (below_drew (Below.refl _ _)))⟩); (case hokp => exact HOK.out); (case HO => exact Kd.S_drew HSS2.out); (case HB => exact below_drew HB2.out); (case hbase => exact HZ2.out); (case hl => have := HCL.out; omega); intro v1 w9 ho9 hb9 hg9 hat9; have HA := Aside0.mk (RdS.put (b := true) HBG.out (show W2.drew.heap[g]? = _ from HG2.out) (Kd.S_drew HSS2.out) ho9 hg9); have HB9 := Aside0.mk hb9; have HK9 : Aside0 (KeT TR w w9) := ⟨KeT.grown (HK2.out.trans (KeT.below (below_drew (Below.refl _ _)))) (Kd.S_R (Kd.S_drew HSS2.out)) (by decide) hg9⟩; obtain ⟨A9, c9, rfl⟩ := Kd.S_slice ho9; clear ho9 hb9 hg9 hat9 g0 g1 g2 g3 g4 g5 g6 g7; obtain ⟨g0, g1, g2, g3, g4, g5⟩ := five HA.out.1))
    all_goals go_wp2
    all_goals go_ret
    all_goals (unfold WordPost; rw [HU.out]; exact ⟨rfl, by have h := HA.out.2.2.1; rwa [show (s.cs ++ [s.now]).length = s.cs.length + 1 by simp] at h, ((HB9.out.setCell HBG.out _).setCell HBG.out _).setCell HBG.out _, by have h := HK9.out.trans HA.out.2.2.2; rwa [show (s.cs ++ [s.now]).length = s.cs.length + 1 by simp] at h⟩)
  | false =>
    have HOP := Aside0.mk hop
    have HN0 := Aside0.mk (HNO.out hop)
    have d3 : ((s.cs.length : Int) == s.many) = false := beq_eq_false_iff_ne.2 (fun e => h3 ⟨hop, e⟩)
    clear h3 hop
    go_enter Tryz.func90, Tryz.ntmps90
    go_wp2_with (first | ((with_reducible refine (HI.out).mono ?_); rintro e w1 ⟨rfl, ⟨m, rfl⟩⟩; rw [HBB.out]) | ((with_reducible refine (HWH.out _ (HEE.out _ (pw_below_drewN (Below.refl _ _) _))).mono ?_); rintro e w1 ⟨rfl, hb1⟩; have HB1 : Aside0 (Below w.heap.size w w1) := ⟨(pw_below_drewN (Below.refl _ _) _).trans hb1⟩; clear hb1; obtain ⟨A0, c0, A1, c1, hg, hs, hr⟩ := RdS.parts (HS.out.below HB1.out); rw [HOP.out] at hg; have HG := Aside0.mk hg; have HSS := Aside0.mk hs; have HR := Aside0.mk hr; clear hs hr; obtain ⟨g0, g1, g2, g3, g4, g5⟩ := five hg; clear hg))
    go_quiet (fail)
    go_wp2
    obtain ⟨W2, hW2⟩ : ∃ W2, W2 = (w1.drewN nq).setCell ⟨g, 3, none⟩ (.slice none 0 0) := ⟨_, rfl⟩
    rw [← hW2]
    have HG2 : Aside0 (W2.heap[g]? = some (.cells #[.int .i64 s.v, .slice A0 s.cs.length c0, .int .i64 s.many, .slice none 0 0, .bool false] 67 (0, 0))) := ⟨by rw [hW2]; simpa using blk_set (show (w1.drewN nq).heap[g]? = _ from HG.out) 3 (.slice none 0 0)⟩
    have HSS2 : Aside0 (Kd.S (Kd.slice 3 (Kd.int .i64)) 65 W2 base (fun k => True ∧ some k ≠ (Value.slice none 0 0).ownBlock) (.slice A0 s.cs.length c0) s.cs) := ⟨by rw [hW2]; exact Kd.S_mono (Kd.S_set (Kd.S_drewN HSS.out nq) (show (w1.drewN nq).heap[g]? = _ from HG.out) E_cl 3 _) (fun _ _ => ⟨trivial, by simp [Value.ownBlock]⟩)⟩
    have HR2 : Aside0 (Kd.R (Kd.int .i64) 3 W2 base (fun _ => True) (.slice none 0 0) s.now) := ⟨by rw [hW2]; rw [HN0.out]; exact Kd.R_nil _ _ _ _ _⟩
    have HB2 : Aside0 (Below base w W2) := ⟨by rw [hW2]; exact (pw_below_drewN (HB1.out.mono HB.out) _).setCell HBG.out _⟩
    have HK2 : Aside0 (KeT TR w W2) := ⟨by rw [hW2]; exact (KeT.below (pw_below_drewN HB1.out _)).trans (KeT.set (show (w1.drewN nq).heap[g]? = _ from HG.out) (by decide) 3 _)⟩
    have HZ2 : Aside0 (base ≤ W2.heap.size) := ⟨Nat.le_trans HBG.out (Nat.le_of_lt (Array.getElem?_eq_some_iff.1 HG2.out).1)⟩
    clear hW2 g0 g1 g2 g3 g4 g5
    obtain ⟨g0, g1, g2, g3, g4, g5⟩ := five HG2.out
    have g6 : ∀ o, (W2.alloc o).cell? ⟨g, 1, none⟩ = some (.slice A0 s.cs.length c0) := fun o => pw_cell_below (below_alloc (Below.refl _ _) _) g1
    have g7 : ∀ o, (W2.alloc o).cell? ⟨g, 3, none⟩ = some (.slice none 0 0) := fun o => pw_cell_below (below_alloc (Below.refl _ _) _) g3
    have HOK : Aside0 (∀ k, some k = (Value.slice none 0 0).ownBlock → True ∧ some k ≠ (Value.slice A0 s.cs.length c0).ownBlock) := ⟨fun k hk => ⟨trivial, fun e => by obtain ⟨i1, h1⟩ := Kd.S_own HSS2.out; obtain ⟨i2, h2⟩ := Kd.R_own HR2.out; obtain ⟨c3, h3⟩ := own_typed h1 k e.symm; obtain ⟨c4, h4⟩ := own_typed h2 k hk.symm; rw [h3] at h4; cases h4⟩⟩
    go_region_law (first
      | (refine Kd.S_append_step (Kd.slice 3 (Kd.int .i64)) (w0 := w) (W := W2.drew) base ?hw (.tmp 81) (.tmp 86) 22 65 (.slice none 0 0) 24 rfl Tryz.underlying22 info_clause rfl Nat.one_pos (by decide) (.slice A0 s.cs.length c0) s.cs s.now [.slice none 0 0] (fun _ => True) (fun k => some k = (Value.slice none 0 0).ownBlock) rfl rfl ?hp ?hokp (fun _ _ => trivial) ?HO ?HB ?hbase ?hl ?_; (case hw => rfl); (case hp => exact ⟨_, rfl, Kd.R_tight rfl (Kd.R_below HR2.out (below_drew (Below.refl _ _)))⟩); (case hokp => exact HOK.out); (case HO => exact Kd.S_drew HSS2.out); (case HB => exact below_drew HB2.out); (case hbase => exact HZ2.out); (case hl => have := HCL.out; omega); intro v1 w9 ho9 hb9 hg9 hat9; have HA := Aside0.mk (RdS.put (b := false) HBG.out (show W2.drew.heap[g]? = _ from HG2.out) (Kd.S_drew HSS2.out) ho9 hg9); have HB9 := Aside0.mk hb9; have HK9 : Aside0 (KeT TR w w9) := ⟨KeT.grown (HK2.out.trans (KeT.below (below_drew (Below.refl _ _)))) (Kd.S_R (Kd.S_drew HSS2.out)) (by decide) hg9⟩; obtain ⟨A9, c9, rfl⟩ := Kd.S_slice ho9; clear ho9 hb9 hg9 hat9 g0 g1 g2 g3 g4 g5 g6 g7; obtain ⟨g0, g1, g2, g3, g4, g5⟩ := five HA.out.1))
    all_goals go_wp2
    all_goals go_ret
    all_goals (unfold WordPost; rw [HU.out]; exact ⟨rfl, by have h := HA.out.2.2.1; rwa [show (s.cs ++ [s.now]).length = s.cs.length + 1 by simp] at h, ((HB9.out.setCell HBG.out _).setCell HBG.out _).setCell HBG.out _, by have h := HK9.out.trans HA.out.2.2.2; rwa [show (s.cs ++ [s.now]).length = s.cs.length + 1 by simp] at h⟩)

theorem word_any (base g : Nat) (s : Rd) (x : ByteArray) (w : World) (hS : RdS w base g s) (hG : RGood s) (hx : x.size ≤ 262144) (he : wholeB x.data.toList = true → x.size ≤ 18 ∨ EVs w) (hbase : base ≤ w.heap.size) :
    Calls Tryz.prog 90 #[.pointer (some ⟨g, 0, none⟩), .string x] w (WordPost base g s x.data.toList w) := by
  by_cases hk : (wordR s x.data.toList).1 = 0
  · have h := hk
    unfold wordR at h
    split at h
    · cases h
    rename_i hb
    have hb : wholeB x.data.toList = true := by simpa using hb
    split at h
    · cases h
    rename_i h1
    split at h
    · cases h
    rename_i h2
    split at h
    · cases h
    rename_i h3
    split at h
    · cases h
    rename_i h4
    by_cases h5 : wholeN x.data.toList = 0
    · exact word_end base g s x w hS hG hx hb (he hb) hbase h3 h5
    · exact word_lit base g s x w hS hG hx hb (he hb) hbase h1 h2 h3 (fun e => h4 ⟨h5, e⟩) h5
  · exact word_bad base g s x w hS hG hx he hbase hk
end Go.Proofs.YtjfmoildblcjiaaGreatDoor.P4
end

section
/- What is proved here: the contract of the reader's line. -/
namespace Go.Proofs.YtjfmoildblcjiaaGreatDoor.P5
open Go.RowKit Go.Proofs.YtjfmoildblcjiaaGreatDoorW.PrintWords Go.Proofs.YtjfmoildblcjiaaGreatDoorW.PrintLast Go.Proofs.YtjfmoildblcjiaaGreatDoorW.PrintMore Go.Proofs.YtjfmoildblcjiaaGreatDoor.H1 Go.Proofs.YtjfmoildblcjiaaGreatDoor.P1 Go.Proofs.YtjfmoildblcjiaaGreatDoor.P2 Go.Proofs.YtjfmoildblcjiaaGreatDoor.P3 Go.Proofs.YtjfmoildblcjiaaGreatDoor.P4

def blank (c : UInt8) : Bool := decide (c = 32) || decide (c = 9) || decide (c = 13)
def endW (l : List UInt8) (i : Nat) : Nat := i + ((l.drop i).takeWhile (fun c => !blank c)).length
theorem endW_lt (l : List UInt8) (i : Nat) (h : i < l.length) (hb : blank l[i] = false) : i < endW l i := by
  unfold endW
  rw [List.drop_eq_getElem_cons h, List.takeWhile_cons_of_pos (by simp [hb])]
  simp
theorem endW_eq {l : List UInt8} {i j : Nat} (hij : i ≤ j) (hj : j ≤ l.length) (h : ∀ k (hk : k < l.length), i ≤ k → k < j → blank l[k] = false) (he : j = l.length ∨ ∃ hj : j < l.length, blank l[j] = true) : endW l i = j := by
  unfold endW
  induction n : j - i generalizing i with
  | zero =>
    obtain rfl : i = j := by omega
    rcases he with rfl | ⟨hj, hb⟩
    · simp
    · rw [List.drop_eq_getElem_cons hj, List.takeWhile_cons_of_neg (by simp [hb])]; rfl
  | succ n ih =>
    have hi : i < l.length := by omega
    rw [List.drop_eq_getElem_cons hi, List.takeWhile_cons_of_pos (by simp [h i hi (Nat.le_refl _) (by omega)]), List.length_cons]
    have := ih (i := i + 1) (by omega) (fun k hk h1 h2 => h k hk (by omega) h2) (by omega)
    omega
/-- The words of a line, from a place on: the reader behind it; what is wrong, and where. -/
def lineL (l : List UInt8) (a : Int) (s : Rd) (i : Nat) : Rd × Int × Int :=
  if h : i < l.length then
    if hb : blank l[i] = true then lineL l a s (i + 1)
    else if (wordR s ((l.drop i).take (endW l i - i))).1 ≠ 0 then ((wordR s ((l.drop i).take (endW l i - i))).2, wrap64 (a + i), (wordR s ((l.drop i).take (endW l i - i))).1)
    else lineL l a (wordR s ((l.drop i).take (endW l i - i))).2 (endW l i)
  else (s, 0, 0)
termination_by l.length - i
decreasing_by
  · omega
  · have := endW_lt l i h (by simpa using hb)
    omega
theorem isBlank_any (c : UInt8) (w : World) : Calls Tryz.prog 89 #[.int .u8 (c.toNat : Int)] w fun e w' => e = .returned (.bool (blank c)) ∧ Drawn0 w w' := by
  refine QP.cnf_isBlank.calls _ _ w ?_
  unfold QP.cnf_isBlank.f blank
  have h32 : ((c.toNat : Int) = 32) = (c = 32) := propext ⟨fun h => UInt8.toNat_inj.1 (by have : ((32 : UInt8).toNat : Int) = 32 := rfl; omega), fun h => by rw [h]; rfl⟩
  have h9 : ((c.toNat : Int) = 9) = (c = 9) := propext ⟨fun h => UInt8.toNat_inj.1 (by have : ((9 : UInt8).toNat : Int) = 9 := rfl; omega), fun h => by rw [h]; rfl⟩
  have h13 : ((c.toNat : Int) = 13) = (c = 13) := propext ⟨fun h => UInt8.toNat_inj.1 (by have : ((13 : UInt8).toNat : Int) = 13 := rfl; omega), fun h => by rw [h]; rfl⟩
  by_cases a : c = 32
  · rw [if_pos (by rw [h32]; exact a)]; simp [a]
  · rw [if_neg (by rw [h32]; exact a)]
    by_cases b : c = 9
    · rw [if_pos (by rw [h9]; exact b)]; simp [b]
    · rw [if_neg (by rw [h9]; exact b)]
      by_cases d : c = 13
      · simp [d]
      · have : ((c.toNat : Int) == 13) = false := by rw [beq_eq_false_iff_ne]; intro e; exact d (h13 ▸ e)
        rw [this]; simp [a, b, d]
def ShortsB (l : List UInt8) (base : Nat) (w : World) : Prop := (∀ i j, i ≤ j → j ≤ l.length → (∀ k (hk : k < l.length), i ≤ k → k < j → blank l[k] = false) → j - i ≤ 18) ∨ (EVs w ∧ 3 < base)
theorem EVs_mono {base : Nat} {w w' : World} (h : EVs w) (hb : Below base w w') (hg : 3 < base) : EVs w' := by
  obtain ⟨ev, h1, h2⟩ := h
  exact ⟨ev, (hb.cell (p := ⟨3, 0, none⟩) hg).trans h1, h2⟩
theorem heap_new2 (w : World) (x y : Value) (t : Nat) : (w.alloc (.cells #[x, y] t)).heap[w.heap.size]? = some (.cells #[x, y] t (0, 0)) := by
  show (w.heap.push _)[w.heap.size]? = _
  rw [Array.getElem?_push, if_pos rfl]
/-- Words that are too long for a number want strconv's errors. -/
def Shorts (l : List UInt8) (w : World) : Prop := (∀ i j, i ≤ j → j ≤ l.length → (∀ k (hk : k < l.length), i ≤ k → k < j → blank l[k] = false) → j - i ≤ 18) ∨ EVs w

set_option maxHeartbeats 4000000 in
set_option maxRecDepth 100000 in
theorem line_any (base g : Nat) (s : Rd) (x : ByteArray) (a : Int) (w : World) (hS : RdS w base g s) (hG : RGood s) (hx : x.size ≤ 262144) (he : ShortsB x.data.toList base w) (hbase : base ≤ w.heap.size) :
    Calls Tryz.prog 47 #[.pointer (some ⟨g, 0, none⟩), .string x, .int .i64 a] w fun e w' =>
      e = .returned (.agg #[.int .i64 (lineL x.data.toList a s 0).2.1, .int .i64 (lineL x.data.toList a s 0).2.2]) ∧ RdS w' base g (lineL x.data.toList a s 0).1 ∧ RGood (lineL x.data.toList a s 0).1 ∧ Below base w w' ∧ KeT TR w w' := by
  have HS := Aside0.mk hS
  have HG := Aside0.mk hG
  have HB := Aside0.mk hbase
  have HE := Aside0.mk he
  have HX := Aside0.mk hx
  clear hS hG he hbase
  go_enter Tryz.func47, Tryz.ntmps47
  go_wp2
  go_loopg [7] (x.size) (fun kq v7 w' => ∃ (i : Nat) (st : Rd), Aside0 (i + kq = x.size) ∧ v7 = .int .i64 (i : Int) ∧ Aside0 (lineL x.data.toList a s 0 = lineL x.data.toList a st i) ∧ Aside0 (RdS w' base g st) ∧ Aside0 (RGood st) ∧ Aside0 (Below base w w') ∧ Aside0 (KeT TR w w') ∧
    Aside0 (w'.heap[w.heap.size]? = some (.cells #[.int .i64 0, .int .i64 0] 27 (0, 0))))
  case atStart => exact ⟨0, s, ⟨by omega⟩, rfl, ⟨rfl⟩, ⟨HS.out.below (below_alloc (Below.refl _ _) _)⟩, HG, ⟨(below_alloc (Below.refl _ _) _).mono HB.out⟩, ⟨KeT.below (below_alloc (Below.refl _ _) _)⟩, ⟨heap_new2 _ _ _ _⟩⟩
  case round =>
    obtain ⟨i, st, HI, rfl, HA, HSt, HGt, HBt, HKt, HF⟩ := hrel
    obtain ⟨wo, rfl⟩ : ∃ wo : World, wo = wr := ⟨_, rfl⟩
    by_cases hlt : i < x.size
    · have hL : i < x.data.toList.length := by rw [data_length]; exact hlt
      have c0 : decide ((i : Int) < (x.size : Int)) = true := decide_eq_true (by omega)
      have p5 : (0 ≤ (i : Int)) = True := eq_true (by omega)
      have q5 : ((i : Int) < (x.size : Int)) = True := eq_true (by omega)
      obtain ⟨c, hcc⟩ : ∃ c, c = x.data.toList[i] := ⟨_, rfl⟩
      have hxc : ∀ h : i < x.size, x[i]'h = c := fun h => by rw [hcc]; rfl
      have HSTEP1 : Aside0 (blank c = true → lineL x.data.toList a s 0 = lineL x.data.toList a st (i + 1)) := ⟨fun hb => by rw [HA.out, lineL, dif_pos hL, dif_pos (hcc ▸ hb)]⟩
      have HSTEP2 : Aside0 (blank c = false → lineL x.data.toList a s 0 = (if (wordR st ((x.data.toList.drop i).take (endW x.data.toList i - i))).1 ≠ 0 then ((wordR st ((x.data.toList.drop i).take (endW x.data.toList i - i))).2, wrap64 (a + i), (wordR st ((x.data.toList.drop i).take (endW x.data.toList i - i))).1)
        else lineL x.data.toList a (wordR st ((x.data.toList.drop i).take (endW x.data.toList i - i))).2 (endW x.data.toList i))) := ⟨fun hb => by
          rw [HA.out, lineL, dif_pos hL, dif_neg (by rw [← hcc, hb]; decide)]⟩
      have HEL : Aside0 (blank c = false → i < endW x.data.toList i) := ⟨fun hb => endW_lt _ _ hL (hcc ▸ hb)⟩
      have HLT := Aside0.mk hlt
      clear hlt hL hcc
      cases hbl : blank c with
      | true =>
        have HBB := Aside0.mk hbl
        have HN := Aside0.mk (HSTEP1.out hbl)
        clear hbl
        go_wp2_with ((with_reducible refine (isBlank_any _ _).mono ?_); rintro e w1 ⟨rfl, ⟨m, rfl⟩⟩; rw [HBB.out])
        go_roundg (x.size - (i + 1))
        case measure => have h1 := HI.out; have h2 := HLT.out; omega
        case rel => exact ⟨i + 1, st, ⟨by have h1 := HI.out; have h2 := HLT.out; omega⟩, congrArg (Value.int .i64) (wrapn HLT.out (by have := HX.out; omega)), HN, ⟨HSt.out.below (pw_below_drewN (Below.refl _ _) _)⟩, HGt, ⟨pw_below_drewN HBt.out _⟩, ⟨HKt.out.trans (KeT.below (pw_below_drewN (Below.refl _ _) _))⟩, HF⟩
      | false =>
        have HBB := Aside0.mk hbl
        clear hbl
        go_wp2_with ((with_reducible refine (isBlank_any _ _).mono ?_); rintro e w1 ⟨rfl, ⟨m, rfl⟩⟩; rw [HBB.out])
        clear hxc p5 q5
        go_loopg [8] (x.size - i) (fun kq v8 w' => ∃ (j : Nat), Aside0 (i ≤ j) ∧ Aside0 (j + kq = x.size) ∧ v8 = .int .i64 (j : Int) ∧ Aside0 (∀ k (hk : k < x.data.toList.length), i ≤ k → k < j → blank x.data.toList[k] = false) ∧ Drawn0 wo w')
        case atStart => exact ⟨i, ⟨Nat.le_refl _⟩, ⟨by have := HLT.out; omega⟩, rfl, ⟨fun k hk h1 h2 => by omega⟩, ⟨_, rfl⟩⟩
        case round =>
          obtain ⟨j, HIJ, HJ, rfl, HNB, ⟨m3, hm3⟩⟩ := hrel
          subst hm3
          by_cases hj : j < x.size
          · have hL : j < x.data.toList.length := by rw [data_length]; exact hj
            have c1 : decide ((j : Int) < (x.size : Int)) = true := decide_eq_true (by omega)
            have p5 : (0 ≤ (j : Int)) = True := eq_true (by omega)
            have q5 : ((j : Int) < (x.size : Int)) = True := eq_true (by omega)
            obtain ⟨c2, hcc⟩ : ∃ c, c = x.data.toList[j] := ⟨_, rfl⟩
            have hxc : ∀ h : j < x.size, x[j]'h = c2 := fun h => by rw [hcc]; rfl
            cases hb2 : blank c2 with
            | false =>
              have HB2 := Aside0.mk hb2
              have HN2 : Aside0 (∀ k (hk : k < x.data.toList.length), i ≤ k → k < j + 1 → blank x.data.toList[k] = false) := ⟨fun k hk h1 h2 => by
                by_cases e : k = j
                · subst e; rw [← hcc]; exact hb2
                · exact HNB.out k hk h1 (by omega)⟩
              have HJL := Aside0.mk hj
              clear hb2 hL hcc hj
              go_wp2_with ((with_reducible refine (isBlank_any _ _).mono ?_); rintro e w1 ⟨rfl, ⟨m4, rfl⟩⟩; rw [HB2.out])
              go_roundg (x.size - (j + 1))
              case measure => have h1 := HJ.out; have h2 := HJL.out; omega
              case rel => exact ⟨j + 1, ⟨by have := HIJ.out; omega⟩, ⟨by have h1 := HJ.out; have h2 := HJL.out; omega⟩, congrArg (Value.int .i64) (wrapn HJL.out (by have := HX.out; omega)), HN2, ⟨_, rfl⟩⟩
            | true =>
              have HB2 := Aside0.mk hb2
              have HBX : Aside0 (∃ hj : j < x.data.toList.length, blank x.data.toList[j] = true) := ⟨hL, hcc ▸ hb2⟩
              have HJL := Aside0.mk hj
              clear hb2 hL hcc hj
              have HJE : Aside0 (endW x.data.toList i = j) := ⟨endW_eq HIJ.out (by rw [data_length]; have := HJ.out; omega) HNB.out (.inr HBX.out)⟩
              have HEX : Aside0 ((x.extract i j).data.toList = (x.data.toList.drop i).take (j - i)) := ⟨Lib.extract_data x i j⟩
              have HSZ : Aside0 ((x.extract i j).size ≤ j - i) := ⟨by rw [ByteArray.size_extract]; omega⟩
              have HSH : Aside0 (∀ W, Below wo.heap.size wo W → (x.extract i j).size ≤ 18 ∨ EVs W) := ⟨fun W hW => by
                rcases HE.out with h | h
                · have h1 := HSZ.out; have h2 := h i j HIJ.out (by rw [data_length]; have := HJ.out; omega) HNB.out; exact .inl (by omega)
                · exact .inr ((EVs_mono h.1 HBt.out h.2).below hW)⟩
              have p6 : ((j : Int) ≤ (x.size : Int)) = True := eq_true (by have := HJ.out; omega)
              have p7 : ((i : Int) ≤ (j : Int)) = True := eq_true (by have := HIJ.out; omega)
              have p8 : (0 ≤ (i : Int)) = True := eq_true (by omega)
              obtain ⟨y, hy⟩ : ∃ y, y = x.extract i j := ⟨_, rfl⟩
              rw [← hy] at HEX HSZ HSH
              have hyx : x.extract i j = y := hy.symm
              clear hy
              have HS2 := HSTEP2.out HBB.out
              rw [HJE.out, ← HEX.out] at HS2
              have HS3 := Aside0.mk HS2
              clear HS2
              have HGW := Aside0.mk (good_word HGt.out y.data.toList)
              have HWD : Aside0 (∀ W, Below wo.heap.size wo W → Calls Tryz.prog 90 #[.pointer (some ⟨g, 0, none⟩), .string y] W (WordPost base g st y.data.toList W)) := ⟨fun W hW => word_any base g st y W (HSt.out.below hW) HGt.out (by have := HX.out; have := HSZ.out; have := HJ.out; omega) (fun _ => HSH.out W hW) (by have h1 := HBt.out.size; have h2 := HB.out; have h3 := hW.size; omega)⟩
              by_cases hk : (wordR st y.data.toList).1 = 0
              · have d0 : ((wordR st y.data.toList).1 != 0) = false := by rw [hk]; rfl
                have HS4 := HS3.out
                rw [if_neg (fun h => h hk)] at HS4
                have HS5 := Aside0.mk HS4
                have HIE : Aside0 (i < j) := ⟨HJE.out ▸ HEL.out HBB.out⟩
                clear hk HS4
                go_wp2_with (first | ((with_reducible refine (isBlank_any _ _).mono ?_); rintro e w1 ⟨rfl, ⟨m4, rfl⟩⟩; rw [HB2.out]) | ((with_reducible refine (HWD.out _ ?s1).mono ?_); (case s1 => exact pw_below_drewN (Below.refl _ _) _); rintro e w2 hw2; obtain ⟨rfl, hS2, hB2, hK2⟩ := hw2; have HS6 := Aside0.mk hS2; have HB6 := Aside0.mk hB2; have HK6 := Aside0.mk hK2; clear hS2 hB2 hK2))
                go_roundg (x.size - j)
                case measure => have h1 := HI.out; have h2 := HIE.out; have h3 := HJ.out; omega
                case rel => exact ⟨j, _, ⟨by have h3 := HJ.out; omega⟩, rfl, HS5, HS6, HGW, ⟨HBt.out.trans ((pw_below_drewN (Below.refl _ _) _).trans HB6.out)⟩, ⟨HKt.out.trans ((KeT.below (pw_below_drewN (Below.refl _ _) _)).trans HK6.out)⟩, ⟨HK6.out.kt _ _ _ HF.out (by decide)⟩⟩
              · have d0 : ((wordR st y.data.toList).1 != 0) = true := bne_iff_ne.2 hk
                have HS4 := HS3.out
                rw [if_pos hk] at HS4
                have HS5 := Aside0.mk HS4
                clear hk HS4
                go_wp2_with (first | ((with_reducible refine (isBlank_any _ _).mono ?_); rintro e w1 ⟨rfl, ⟨m4, rfl⟩⟩; rw [HB2.out]) | ((with_reducible refine (HWD.out _ ?s1).mono ?_); (case s1 => exact pw_below_drewN (Below.refl _ _) _); rintro e w2 hw2; obtain ⟨rfl, hS2, hB2, hK2⟩ := hw2; have HS6 := Aside0.mk hS2; have HB6 := Aside0.mk hB2; have HK6 := Aside0.mk hK2; have HF6 := Aside0.mk (hK2.kt _ _ _ HF.out (by decide)); clear hS2 hB2 hK2; have f0 := blk_cell HF6.out 0; have f1 := blk_cell HF6.out 1; have f2 := blk_frozen HF6.out 0; have f3 := blk_frozen HF6.out 1))
                have hr0 := (blk_cell (blk_set (blk_set HF6.out 0 (.int .i64 (wrap64 (a + (i : Int))))) 1 (.int .i64 (wordR st y.data.toList).1)) 0)
                have hr1 := (blk_cell (blk_set (blk_set HF6.out 0 (.int .i64 (wrap64 (a + (i : Int))))) 1 (.int .i64 (wordR st y.data.toList).1)) 1)
                refine bodyPost_ret (v := .agg #[.int .i64 (wrap64 (a + (i : Int))), .int .i64 (wordR st y.data.toList).1]) (by simp [results, Tryz.results47, go_sem, hr0, hr1]) rfl ?_
                rw [HS5.out]
                exact ⟨rfl, (HS6.out.setFar HF6.out (by decide) 0 _).setFar (blk_set HF6.out 0 _) (by decide) 1 _, HGW.out, (((HBt.out.trans ((pw_below_drewN (Below.refl _ _) _).trans HB6.out)).setCell HB.out _).setCell HB.out _), ((HKt.out.trans ((KeT.below (pw_below_drewN (Below.refl _ _) _)).trans HK6.out)).setNew (Nat.le_refl _) 0 _).setNew (Nat.le_refl _) 1 _⟩
          · have c1 : decide ((j : Int) < (x.size : Int)) = false := decide_eq_false (by omega)
            have q5 : ((j : Int) < (x.size : Int)) = False := eq_false (by omega)
            have HJL := Aside0.mk hj
            have HB2 := HB
            clear hj
            have HJE : Aside0 (endW x.data.toList i = j) := ⟨endW_eq HIJ.out (by rw [data_length]; have := HJ.out; omega) HNB.out (.inl (by rw [data_length]; have h1 := HJ.out; have h2 := HJL.out; omega))⟩
            have HEX : Aside0 ((x.extract i j).data.toList = (x.data.toList.drop i).take (j - i)) := ⟨Lib.extract_data x i j⟩
            have HSZ : Aside0 ((x.extract i j).size ≤ j - i) := ⟨by rw [ByteArray.size_extract]; omega⟩
            have HSH : Aside0 (∀ W, Below wo.heap.size wo W → (x.extract i j).size ≤ 18 ∨ EVs W) := ⟨fun W hW => by
              rcases HE.out with h | h
              · have h1 := HSZ.out; have h2 := h i j HIJ.out (by rw [data_length]; have := HJ.out; omega) HNB.out; exact .inl (by omega)
              · exact .inr ((EVs_mono h.1 HBt.out h.2).below hW)⟩
            have p6 : ((j : Int) ≤ (x.size : Int)) = True := eq_true (by have := HJ.out; omega)
            have p7 : ((i : Int) ≤ (j : Int)) = True := eq_true (by have := HIJ.out; omega)
            have p8 : (0 ≤ (i : Int)) = True := eq_true (by omega)
            obtain ⟨y, hy⟩ : ∃ y, y = x.extract i j := ⟨_, rfl⟩
            rw [← hy] at HEX HSZ HSH
            have hyx : x.extract i j = y := hy.symm
            clear hy
            have HS2 := HSTEP2.out HBB.out
            rw [HJE.out, ← HEX.out] at HS2
            have HS3 := Aside0.mk HS2
            clear HS2
            have HGW := Aside0.mk (good_word HGt.out y.data.toList)
            have HWD : Aside0 (∀ W, Below wo.heap.size wo W → Calls Tryz.prog 90 #[.pointer (some ⟨g, 0, none⟩), .string y] W (WordPost base g st y.data.toList W)) := ⟨fun W hW => word_any base g st y W (HSt.out.below hW) HGt.out (by have := HX.out; have := HSZ.out; have := HJ.out; omega) (fun _ => HSH.out W hW) (by have h1 := HBt.out.size; have h2 := HB.out; have h3 := hW.size; omega)⟩
            by_cases hk : (wordR st y.data.toList).1 = 0
            · have d0 : ((wordR st y.data.toList).1 != 0) = false := by rw [hk]; rfl
              have HS4 := HS3.out
              rw [if_neg (fun h => h hk)] at HS4
              have HS5 := Aside0.mk HS4
              have HIE : Aside0 (i < j) := ⟨HJE.out ▸ HEL.out HBB.out⟩
              clear hk HS4
              go_wp2_with (first | ((with_reducible refine (isBlank_any _ _).mono ?_); rintro e w1 ⟨rfl, ⟨m4, rfl⟩⟩; rw [HB2.out]) | ((with_reducible refine (HWD.out _ ?s1).mono ?_); (case s1 => exact pw_below_drewN (Below.refl _ _) _); rintro e w2 hw2; obtain ⟨rfl, hS2, hB2, hK2⟩ := hw2; have HS6 := Aside0.mk hS2; have HB6 := Aside0.mk hB2; have HK6 := Aside0.mk hK2; clear hS2 hB2 hK2))
              go_roundg (x.size - j)
              case measure => have h1 := HI.out; have h2 := HIE.out; have h3 := HJ.out; omega
              case rel => exact ⟨j, _, ⟨by have h3 := HJ.out; omega⟩, rfl, HS5, HS6, HGW, ⟨HBt.out.trans ((pw_below_drewN (Below.refl _ _) _).trans HB6.out)⟩, ⟨HKt.out.trans ((KeT.below (pw_below_drewN (Below.refl _ _) _)).trans HK6.out)⟩, ⟨HK6.out.kt _ _ _ HF.out (by decide)⟩⟩
            · have d0 : ((wordR st y.data.toList).1 != 0) = true := bne_iff_ne.2 hk
              have HS4 := HS3.out
              rw [if_pos hk] at HS4
              have HS5 := Aside0.mk HS4
              clear hk HS4
              go_wp2_with (first | ((with_reducible refine (isBlank_any _ _).mono ?_); rintro e w1 ⟨rfl, ⟨m4, rfl⟩⟩; rw [HB2.out]) | ((with_reducible refine (HWD.out _ ?s1).mono ?_); (case s1 => exact pw_below_drewN (Below.refl _ _) _); rintro e w2 hw2; obtain ⟨rfl, hS2, hB2, hK2⟩ := hw2; have HS6 := Aside0.mk hS2; have HB6 := Aside0.mk hB2; have HK6 := Aside0.mk hK2; have HF6 := Aside0.mk (hK2.kt _ _ _ HF.out (by decide)); clear hS2 hB2 hK2; have f0 := blk_cell HF6.out 0; have f1 := blk_cell HF6.out 1; have f2 := blk_frozen HF6.out 0; have f3 := blk_frozen HF6.out 1))
              have hr0 := (blk_cell (blk_set (blk_set HF6.out 0 (.int .i64 (wrap64 (a + (i : Int))))) 1 (.int .i64 (wordR st y.data.toList).1)) 0)
              have hr1 := (blk_cell (blk_set (blk_set HF6.out 0 (.int .i64 (wrap64 (a + (i : Int))))) 1 (.int .i64 (wordR st y.data.toList).1)) 1)
              refine bodyPost_ret (v := .agg #[.int .i64 (wrap64 (a + (i : Int))), .int .i64 (wordR st y.data.toList).1]) (by simp [results, Tryz.results47, go_sem, hr0, hr1]) rfl ?_
              rw [HS5.out]
              exact ⟨rfl, (HS6.out.setFar HF6.out (by decide) 0 _).setFar (blk_set HF6.out 0 _) (by decide) 1 _, HGW.out, (((HBt.out.trans ((pw_below_drewN (Below.refl _ _) _).trans HB6.out)).setCell HB.out _).setCell HB.out _), ((HKt.out.trans ((KeT.below (pw_below_drewN (Below.refl _ _) _)).trans HK6.out)).setNew (Nat.le_refl _) 0 _).setNew (Nat.le_refl _) 1 _⟩
    · have c0 : decide ((i : Int) < (x.size : Int)) = false := decide_eq_false (by omega)
      have q5 : ((i : Int) < (x.size : Int)) = False := eq_false (by omega)
      have HN := Aside0.mk (show lineL x.data.toList a s 0 = (st, 0, 0) by rw [HA.out, lineL, dif_neg (by rw [data_length]; omega)])
      clear hlt
      have f0 := blk_cell HF.out 0
      have f1 := blk_cell HF.out 1
      have f2 := blk_frozen HF.out 0
      have f3 := blk_frozen HF.out 1
      go_wp2
      have hr0 := (blk_cell (blk_set (blk_set HF.out 0 (.int .i64 0)) 1 (.int .i64 0)) 0)
      have hr1 := (blk_cell (blk_set (blk_set HF.out 0 (.int .i64 0)) 1 (.int .i64 0)) 1)
      refine bodyPost_ret (v := .agg #[.int .i64 0, .int .i64 0]) (by simp [results, Tryz.results47, go_sem, hr0, hr1]) rfl ?_
      rw [HN.out]
      exact ⟨rfl, (HSt.out.setFar HF.out (by decide) 0 _).setFar (blk_set HF.out 0 _) (by decide) 1 _, HGt.out, ((HBt.out.setCell HB.out _).setCell HB.out _), (HKt.out.setNew (Nat.le_refl _) 0 _).setNew (Nat.le_refl _) 1 _⟩
end Go.Proofs.YtjfmoildblcjiaaGreatDoor.P5
end

section
/- What is proved here: strings.Cut and strings.Split at one byte; cnf.count and cnf.problem. -/
namespace Go.Proofs.YtjfmoildblcjiaaGreatDoor.P6
open Go.RowKit Go.Proofs.YtjfmoildblcjiaaGreatDoorW.PrintWords Go.Proofs.YtjfmoildblcjiaaGreatDoorW.PrintLast Go.Proofs.YtjfmoildblcjiaaGreatDoorW.PrintMore Go.Proofs.YtjfmoildblcjiaaGreatDoor.H1 Go.Proofs.YtjfmoildblcjiaaGreatDoor.P1 Go.Proofs.YtjfmoildblcjiaaGreatDoor.P2

def befC (c : UInt8) (l : List UInt8) : List UInt8 := l.takeWhile (fun b => !(b == c))
theorem befC_le (c : UInt8) (l : List UInt8) : (befC c l).length ≤ l.length := (List.takeWhile_prefix _).length_le
theorem befC_take (c : UInt8) (l : List UInt8) : l.take (befC c l).length = befC c l := (List.prefix_iff_eq_take.1 (List.takeWhile_prefix _)).symm
theorem befC_lt {c : UInt8} : ∀ {l : List UInt8}, c ∈ l → (befC c l).length < l.length
  | [], h => by cases h
  | b :: r, h => by
    unfold befC
    by_cases e : b = c
    · subst e; rw [List.takeWhile_cons_of_neg (by simp)]; simp
    · rw [List.takeWhile_cons_of_pos (by simpa using e), List.length_cons, List.length_cons]
      have : c ∈ r := by rcases List.mem_cons.1 h with h | h; exact absurd h.symm e; exact h
      have := befC_lt this
      unfold befC at this
      omega
theorem befC_all {c : UInt8} {l : List UInt8} (h : c ∉ l) : befC c l = l := by
  induction l with
  | nil => rfl
  | cons b r ih =>
    have h1 : b ≠ c := fun e => h (e ▸ List.mem_cons_self)
    unfold befC
    rw [List.takeWhile_cons_of_pos (by simpa using h1)]
    exact congrArg _ (ih (fun hc => h (List.mem_cons_of_mem _ hc)))
theorem indexByte_eq (c : UInt8) : ∀ l : List UInt8, Lib.indexByte l c = if c ∈ l then ((befC c l).length : Int) else -1
  | [] => by simp [Lib.indexByte]
  | b :: r => by
    unfold Lib.indexByte
    by_cases e : b = c
    · subst e; rw [if_pos (by simp), if_pos (by simp)]; unfold befC; rw [List.takeWhile_cons_of_neg (by simp)]; rfl
    · rw [if_neg (by simpa using e), indexByte_eq c r]
      by_cases h : c ∈ r
      · have hz : ¬ (((befC c r).length : Int) == -1) = true := by rw [beq_iff_eq]; omega
        rw [if_pos h, if_pos (List.mem_cons_of_mem _ h), if_neg hz]
        unfold befC
        rw [List.takeWhile_cons_of_pos (by simpa using e), List.length_cons]
        omega
      · have hz : ¬ c ∈ b :: r := fun hc => by
          rcases List.mem_cons.1 hc with hc | hc
          · exact e hc.symm
          · exact h hc
        rw [if_neg h, if_neg hz]; rfl

set_option maxHeartbeats 1000000 in
set_option maxRecDepth 100000 in
theorem cut1_in (s : ByteArray) (c : UInt8) (w : World) (hs : s.size ≤ 9223372036854775806) : Calls Tryz.prog 87 #[.string s, .string ⟨#[c]⟩] w fun e w' =>
    (∃ a b : ByteArray, e = .returned (.tuple #[.string a, .string b, .bool (decide (c ∈ s.data.toList))]) ∧ a.data.toList = befC c s.data.toList) ∧ Drawn0 w w' := by
  have HI := Aside0.mk (Tryz.stringslite_Index_one s c w)
  have HE := Aside0.mk (indexByte_eq c s.data.toList)
  by_cases h : c ∈ s.data.toList
  · have hl := befC_lt h
    rw [data_length] at hl
    obtain ⟨n, hn⟩ : ∃ n, n = (befC c s.data.toList).length := ⟨_, rfl⟩
    rw [← hn] at hl
    have HE2 : Aside0 (Lib.indexByte s.data.toList c = (n : Int)) := ⟨by rw [HE.out, if_pos h, hn]⟩
    have HX : Aside0 ((s.extract 0 n).data.toList = befC c s.data.toList) := ⟨by rw [Lib.extract_from_zero, hn, befC_take]⟩
    have HD : Aside0 (decide (c ∈ s.data.toList) = true) := ⟨decide_eq_true h⟩
    have c1 : (0 : Int) ≤ ↑n := by omega
    have c2 : (↑n : Int) ≤ ↑s.size := by omega
    have c3 : (0 : Int) ≤ ↑n + 1 := by omega
    have c4 : (↑n + 1 : Int) ≤ ↑s.size := by omega
    have c5 : IntKind.i64.wrap ((n : Int) + 1) = (n : Int) + 1 := IntWalk.i64_in _ (by omega)
    have c6 : ((n : Int) + 1).toNat = n + 1 := by omega
    clear h hn
    go_enter Tryz.func87, Tryz.ntmps87
    go_wp2_with ((with_reducible refine (HI.out).mono ?_); rintro e w1 ⟨rfl, rfl⟩; rw [HE2.out])
    go_region
    all_goals go_wp2
    all_goals go_ret3
    all_goals exact ⟨⟨_, _, by rw [HD.out]; rfl, HX.out⟩, ⟨1, rfl⟩⟩
  · have HE2 : Aside0 (Lib.indexByte s.data.toList c = -1) := ⟨by rw [HE.out, if_neg h]⟩
    have HD : Aside0 (decide (c ∈ s.data.toList) = false) := ⟨decide_eq_false h⟩
    have HX : Aside0 (s.data.toList = befC c s.data.toList) := ⟨(befC_all h).symm⟩
    clear h
    go_enter Tryz.func87, Tryz.ntmps87
    go_wp2_with ((with_reducible refine (HI.out).mono ?_); rintro e w1 ⟨rfl, rfl⟩; rw [HE2.out])
    go_ret3
    exact ⟨⟨_, _, by rw [HD.out]; rfl, HX.out⟩, Drawn0.refl _⟩
set_option maxHeartbeats 1000000 in
set_option maxRecDepth 100000 in
theorem cut1 (s : ByteArray) (c : UInt8) (w : World) (hs : s.size ≤ 9223372036854775806) : Calls Tryz.prog 45 #[.string s, .string ⟨#[c]⟩] w fun e w' =>
    (∃ a b : ByteArray, e = .returned (.tuple #[.string a, .string b, .bool (decide (c ∈ s.data.toList))]) ∧ a.data.toList = befC c s.data.toList) ∧ Drawn0 w w' := by
  have HI := Aside0.mk (cut1_in s c w hs)
  obtain ⟨f, hf⟩ : ∃ f, f = decide (c ∈ s.data.toList) := ⟨_, rfl⟩
  rw [← hf] at HI ⊢
  clear hf
  go_enter Tryz.func45, Tryz.ntmps45
  go_wp2_with ((with_reducible refine (HI.out).mono ?_); rintro e w1 ⟨⟨a, b, rfl, hA⟩, ⟨m, rfl⟩⟩; have HA := Aside0.mk hA; clear hA)
  go_ret3
  exact ⟨⟨_, _, rfl, HA.out⟩, ⟨_, rfl⟩⟩

/-- The pieces between the bytes c. -/
def splitC (c : UInt8) : Nat → List UInt8 → List (List UInt8)
  | 0, l => [l]
  | k + 1, l => if c ∈ l then befC c l :: splitC c k (l.drop ((befC c l).length + 1)) else [l]
theorem splitK_eq (c : UInt8) : ∀ (k : Nat) (l : List UInt8), Lib.splitK [c] 0 k l = splitC c k l
  | 0, l => rfl
  | k + 1, l => by
    unfold Lib.splitK splitC
    rw [Lib.index_one, indexByte_eq]
    by_cases h : c ∈ l
    · have hz : ¬ (((befC c l).length : Int) == -1) = true := by rw [beq_iff_eq]; omega
      rw [if_pos h, if_pos h, if_neg hz, Int.toNat_natCast, Nat.add_zero, befC_take, splitK_eq c k]
      rfl
    · rw [if_neg h, if_neg h]; rfl
theorem indexB_one (s : ByteArray) (c : UInt8) : Lib.indexB s ⟨#[c]⟩ = Lib.indexByte s.data.toList c := Lib.index_one _ _
theorem countB_one (s : ByteArray) (c : UInt8) : Lib.countB s ⟨#[c]⟩ = s.data.toList.count c := Lib.count_one c _
set_option maxHeartbeats 1000000 in
set_option maxRecDepth 100000 in
theorem split1 (s : ByteArray) (c : UInt8) (w : World) (hs : s.size < 4294967281) : Calls Tryz.prog 91 #[.string s, .string ⟨#[c]⟩] w fun e w' =>
    ∃ ps : List ByteArray, ps.map (·.data.toList) = splitC c (s.data.toList.count c) s.data.toList ∧ e = .returned (.slice (some ⟨w.heap.size, 0, none⟩) ps.length ps.length) ∧ w' = w.alloc (.cells (ps.map Value.string).toArray 9) := by
  have hle := Lib.countB_le ⟨#[c]⟩ (show 1 ≤ (⟨#[c]⟩ : ByteArray).size from Nat.le_refl _) s.size s (Nat.le_refl _)
  have hlen := Lib.splitB_all ⟨#[c]⟩ (show 1 ≤ (⟨#[c]⟩ : ByteArray).size from Nat.le_refl _) 0 _ s rfl
  have HC := Aside0.mk (Any.strings_genSplit_core Tryz.lays221 (by kernel_rfl) s ⟨#[c]⟩ 0 (-1) (Lib.countB s ⟨#[c]⟩ + 1) w hs (Nat.le_refl _) (Nat.zero_le _)
    (fun x cc hx => (Tryz.strings_Index_one x c _).mono fun e w' h => ⟨by rw [indexB_one]; exact h.1, h.2⟩)
    ((Tryz.strings_Count_one s c w).mono fun e w' h => ⟨by rw [countB_one]; exact h.1, h.2⟩) (by decide) (by decide) (by rw [if_pos (by decide)]; omega))
  rw [Nat.add_sub_cancel, hlen] at HC
  have e2 : Lib.cellsOf (Lib.splitB ⟨#[c]⟩ 0 (Lib.countB s ⟨#[c]⟩) s) (Lib.countB s ⟨#[c]⟩ + 1) = ((Lib.splitB ⟨#[c]⟩ 0 (Lib.countB s ⟨#[c]⟩) s).map Value.string).toArray := by rw [← hlen]; exact Lib.cellsOf_full _
  rw [e2, ← hlen] at HC
  have HD : Aside0 ((Lib.splitB ⟨#[c]⟩ 0 (Lib.countB s ⟨#[c]⟩) s).map (·.data.toList) = splitC c (s.data.toList.count c) s.data.toList) := ⟨by rw [Lib.splitB_data, countB_one]; exact splitK_eq c _ _⟩
  generalize Lib.splitB ⟨#[c]⟩ 0 (Lib.countB s ⟨#[c]⟩) s = ps at HC HD
  clear e2 hlen hle
  go_enter Tryz.func91, Tryz.ntmps91
  go_wp2_with (refine (HC.out).mono ?_; rintro e w' ⟨rfl, rfl⟩)
  go_ret
  exact ⟨ps, HD.out, rfl, rfl⟩

/-! count, problem -/
def countN (l : List UInt8) (most : Int) : Int × Bool :=
  if wholeB l = false then (0, false) else if l.head? = some 45 then (0, false) else if wholeN l > most then (0, false) else (wholeN l, true)
set_option maxHeartbeats 1000000 in
set_option maxRecDepth 100000 in
theorem count_any (a : ByteArray) (most : Int) (w : World) (ha : a.size ≤ 262144) (he : wholeB a.data.toList = true → a.size ≤ 18 ∨ EVs w) :
    Calls Tryz.prog 92 #[.string a, .int .i64 most] w fun e w' => e = .returned (.tuple #[.int .i64 (countN a.data.toList most).1, .bool (countN a.data.toList most).2]) ∧ Below w.heap.size w w' := by
  have HI := Aside0.mk (isWhole_any a w (by omega))
  cases hb : wholeB a.data.toList with
  | false =>
    have HN : Aside0 (countN a.data.toList most = (0, false)) := ⟨by unfold countN; rw [if_pos hb]⟩
    have HBB := Aside0.mk hb
    clear hb he
    go_enter Tryz.func92, Tryz.ntmps92
    go_wp2_with ((with_reducible refine (HI.out).mono ?_); rintro e w1 ⟨rfl, ⟨m, rfl⟩⟩; rw [HBB.out])
    go_ret2
    exact ⟨by rw [HN.out]; rfl, pw_below_drewN (Below.refl _ _) _⟩
  | true =>
    have hE := he hb
    have HEE : Aside0 (∀ W, Below w.heap.size w W → a.size ≤ 18 ∨ EVs W) := ⟨fun W hW => hE.imp id (fun h => h.below hW)⟩
    have HWH := Aside0.mk (fun W hW => whole_any a W ha hb (HEE.out W hW))
    have hne : a.data.toList ≠ [] := fun h => by rw [h] at hb; cases hb
    have hp : 0 < a.data.toList.length := List.length_pos_iff.2 hne
    obtain ⟨c, hc⟩ : ∃ c, c = a.data.toList[0] := ⟨_, rfl⟩
    have hxc : ∀ h : 0 < a.size, a[0]'h = c := fun h => by rw [hc]; rfl
    have hsz : ((0 : Int) < (a.size : Int)) = True := eq_true (by rw [← data_length]; omega)
    have hsz' : (0 < a.size) = True := eq_true (by rw [← data_length]; omega)
    have hh : a.data.toList.head? = some c := by rw [List.head?_eq_getElem?, List.getElem?_eq_getElem hp, hc]
    have HBB := Aside0.mk hb
    have hcu : countN a.data.toList most = (if (some c : Option UInt8) = some 45 then (0, false) else if wholeN a.data.toList > most then (0, false) else (wholeN a.data.toList, true)) := by
      unfold countN; rw [if_neg (by rw [hb]; decide), hh]
    generalize wholeN a.data.toList = N at *
    clear hb he hE hne hc hh hp
    by_cases h45 : c = 45
    · have h45' : (((c.toNat : Int)) == 45) = true := by rw [h45]; rfl
      rw [if_pos (by rw [h45])] at hcu
      have HN := Aside0.mk hcu
      clear hcu h45
      go_enter Tryz.func92, Tryz.ntmps92
      go_wp2_with ((with_reducible refine (HI.out).mono ?_); rintro e w1 ⟨rfl, ⟨m, rfl⟩⟩; rw [HBB.out])
      go_ret2
      exact ⟨by rw [HN.out]; rfl, pw_below_drewN (Below.refl _ _) _⟩
    · have h45' : (((c.toNat : Int)) == 45) = false := by rw [beq_eq_false_iff_ne]; intro e; exact h45 (UInt8.toNat_inj.1 (by have : ((45 : UInt8).toNat : Int) = 45 := rfl; omega))
      rw [if_neg (fun e => h45 (Option.some.inj e))] at hcu
      by_cases h2 : N > most
      · rw [if_pos h2] at hcu
        have HN := Aside0.mk hcu
        have d2 : decide (N > most) = true := decide_eq_true h2
        clear hcu h45 h2
        go_enter Tryz.func92, Tryz.ntmps92
        go_wp2_with (first | ((with_reducible refine (HI.out).mono ?_); rintro e w1 ⟨rfl, ⟨m, rfl⟩⟩; rw [HBB.out]) | ((with_reducible refine (HWH.out _ ?s1).mono ?_); (case s1 => exact pw_below_drewN (Below.refl _ _) _); rintro e w2 ⟨rfl, hb2⟩; have HB2 := Aside0.mk hb2; clear hb2))
        go_ret2
        exact ⟨by rw [HN.out]; rfl, (pw_below_drewN (Below.refl _ _) _).trans HB2.out⟩
      · rw [if_neg h2] at hcu
        have HN := Aside0.mk hcu
        have d2 : decide (N > most) = false := decide_eq_false h2
        clear hcu h45 h2
        go_enter Tryz.func92, Tryz.ntmps92
        go_wp2_with (first | ((with_reducible refine (HI.out).mono ?_); rintro e w1 ⟨rfl, ⟨m, rfl⟩⟩; rw [HBB.out]; have HB2 : Aside0 (Below w.heap.size w (w.drewN m)) := ⟨pw_below_drewN (Below.refl _ _) _⟩) | ((with_reducible refine (HWH.out _ HB2.out).mono ?_); rintro e w2 ⟨rfl, hb2⟩; have HB3 := Aside0.mk (HB2.out.trans (hb2.mono HB2.out.size)); clear hb2 HB2; have HB2 := HB3; clear HB3))
        go_ret2
        exact ⟨by rw [HN.out]; rfl, HB2.out⟩
end Go.Proofs.YtjfmoildblcjiaaGreatDoor.P6
end

section
/- What is proved here: the contract of cnf.problem. -/
namespace Go.Proofs.YtjfmoildblcjiaaGreatDoor.P7
open Go.RowKit Go.Proofs.YtjfmoildblcjiaaGreatDoorW.PrintWords Go.Proofs.YtjfmoildblcjiaaGreatDoorW.PrintLast Go.Proofs.YtjfmoildblcjiaaGreatDoorW.PrintMore Go.Proofs.YtjfmoildblcjiaaGreatDoor.H1 Go.Proofs.YtjfmoildblcjiaaGreatDoor.P1 Go.Proofs.YtjfmoildblcjiaaGreatDoor.P2 Go.Proofs.YtjfmoildblcjiaaGreatDoor.P5 Go.Proofs.YtjfmoildblcjiaaGreatDoor.P6

def problemW : List (List UInt8) → Int × Int × Bool
  | [p0, p1, p2, p3] => if p0 ≠ [112] then (0, 0, false) else if p1 ≠ [99, 110, 102] then (0, 0, false) else if (countN p2 262144).2 = false then (0, 0, false) else ((countN p2 262144).1, (countN p3 524288).1, (countN p3 524288).2)
  | _ => (0, 0, false)
def problemL (l : List UInt8) : Int × Int × Bool := problemW (splitC 32 (l.count 32) l)
theorem problemW_not {ps : List (List UInt8)} (h : ps.length ≠ 4) : problemW ps = (0, 0, false) := by
  match ps, h with
  | [], _ => rfl
  | [_], _ => rfl
  | [_, _], _ => rfl
  | [_, _, _], _ => rfl
  | [_, _, _, _], h => exact absurd rfl h
  | _ :: _ :: _ :: _ :: _ :: _, _ => rfl
/-- The pieces are parts of the line. -/
theorem splitC_part (c : UInt8) : ∀ (k : Nat) (l p : List UInt8), p ∈ splitC c k l → ∃ i j, i ≤ j ∧ j ≤ l.length ∧ p = (l.drop i).take (j - i)
  | 0, l, p, h => by
    rw [splitC, List.mem_singleton] at h
    exact ⟨0, l.length, Nat.zero_le _, Nat.le_refl _, by rw [h]; simp⟩
  | k + 1, l, p, h => by
    rw [splitC] at h
    split at h
    · rename_i hc
      have hl := befC_lt hc
      rcases List.mem_cons.1 h with h | h
      · exact ⟨0, (befC c l).length, Nat.zero_le _, by omega, by rw [h, List.drop_zero, Nat.sub_zero, befC_take]⟩
      · obtain ⟨i, j, h1, h2, h3⟩ := splitC_part c k _ p h
        rw [List.length_drop] at h2
        exact ⟨i + ((befC c l).length + 1), j + ((befC c l).length + 1), by omega, by omega, by
          rw [h3, List.drop_drop, Nat.add_comm ((befC c l).length + 1) i, show j + ((befC c l).length + 1) - (i + ((befC c l).length + 1)) = j - i by omega]⟩
    · rw [List.mem_singleton] at h
      exact ⟨0, l.length, Nat.zero_le _, Nat.le_refl _, by rw [h]; simp⟩
theorem dig_not_blank {c : UInt8} (h : isDig c = true) : P5.blank c = false := by
  have h1 : 48 ≤ c.toNat ∧ c.toNat ≤ 57 := by simpa [isDig] using h
  unfold P5.blank
  simp only [Bool.or_eq_false_iff, decide_eq_false_iff_not]
  refine ⟨⟨?_, ?_⟩, ?_⟩ <;> (intro e; subst e; revert h1; decide)
theorem whole_blank {l : List UInt8} (h : wholeB l = true) : ∀ c ∈ l, P5.blank c = false := by
  obtain ⟨_, h2⟩ := whole_parts h
  rw [List.all_eq_true] at h2
  intro c hc
  unfold digs at h2
  split at h2
  · rename_i h45
    cases l with
    | nil => cases hc
    | cons b r =>
      rcases List.mem_cons.1 hc with rfl | hc
      · obtain rfl : c = 45 := Option.some.inj h45
        decide
      · exact dig_not_blank (h2 c hc)
  · exact dig_not_blank (h2 c hc)
theorem shorts_part {l p : List UInt8} {w : World} (h : Shorts l w) {i j : Nat} (hij : i ≤ j) (hj : j ≤ l.length) (hp : p = (l.drop i).take (j - i)) (hw : wholeB p = true) : p.length ≤ 18 ∨ EVs w := by
  rcases h with h | h
  · have hl : p.length = j - i := by rw [hp, List.length_take, List.length_drop]; omega
    left
    rw [hl]
    refine h i j hij hj (fun k hk h1 h2 => whole_blank hw _ ?_)
    rw [hp, List.mem_take_iff_getElem]
    refine ⟨k - i, by rw [List.length_drop]; omega, ?_⟩
    rw [List.getElem_drop]
    congr 1
    omega
  · exact .inr h

theorem split4 (x : ByteArray) (w : World) (hx : x.size ≤ 262144) (q0 q1 q2 q3 : List UInt8) (h : splitC 32 (x.data.toList.count 32) x.data.toList = [q0, q1, q2, q3]) : Calls Tryz.prog 91 #[.string x, .string ⟨#[32]⟩] w fun e w' =>
    ∃ p0 p1 p2 p3 : ByteArray, (p0.data.toList = q0 ∧ p1.data.toList = q1 ∧ p2.data.toList = q2 ∧ p3.data.toList = q3) ∧ e = .returned (.slice (some ⟨w.heap.size, 0, none⟩) 4 4) ∧ w' = w.alloc (.cells #[.string p0, .string p1, .string p2, .string p3] 9) :=
  (split1 x 32 w (by omega)).mono fun e w' ⟨ps, hps, he, hw⟩ => by
    rw [h] at hps
    match ps, hps with
    | [p0, p1, p2, p3], hps =>
      simp only [List.map_cons, List.map_nil, List.cons.injEq, and_true] at hps
      exact ⟨p0, p1, p2, p3, hps, he, hw⟩
theorem splitX (x : ByteArray) (w : World) (hx : x.size ≤ 262144) (h : (splitC 32 (x.data.toList.count 32) x.data.toList).length ≠ 4) : Calls Tryz.prog 91 #[.string x, .string ⟨#[32]⟩] w fun e w' =>
    ∃ n : Nat, n ≠ 4 ∧ n ≤ 262145 ∧ e = .returned (.slice (some ⟨w.heap.size, 0, none⟩) n n) ∧ Below w.heap.size w w' := by
  have hle := Lib.countB_le ⟨#[32]⟩ (show 1 ≤ (⟨#[32]⟩ : ByteArray).size from Nat.le_refl _) x.size x (Nat.le_refl _)
  have hlen := Lib.splitB_all ⟨#[32]⟩ (show 1 ≤ (⟨#[32]⟩ : ByteArray).size from Nat.le_refl _) 0 _ x rfl
  have h2 : (Lib.splitB ⟨#[32]⟩ 0 (Lib.countB x ⟨#[32]⟩) x).map (·.data.toList) = splitC 32 (x.data.toList.count 32) x.data.toList := by rw [Lib.splitB_data, countB_one]; exact splitK_eq 32 _ _
  refine (split1 x 32 w (by omega)).mono fun e w' ⟨ps, hps, he, hw⟩ => ?_
  have h3 : ps.length = (splitC 32 (x.data.toList.count 32) x.data.toList).length := by rw [← hps, List.length_map]
  have h4 : ps.length = Lib.countB x ⟨#[32]⟩ + 1 := by rw [h3, ← h2, List.length_map, hlen]
  subst hw
  exact ⟨ps.length, by rw [h3]; exact h, by omega, he, below_alloc (Below.refl _ _) _⟩
theorem cells4 (w : World) (t : Nat) (a b c d : Value) : (w.alloc (.cells #[a, b, c, d] t)).heap[w.heap.size]? = some (.cells #[a, b, c, d] t (0, 0)) := by
  show (w.heap.push _)[w.heap.size]? = _
  rw [Array.getElem?_push, if_pos rfl]

set_option maxHeartbeats 2000000 in
set_option maxRecDepth 100000 in
theorem problem_any (x : ByteArray) (w : World) (hx : x.size ≤ 262144) (he : Shorts x.data.toList w) :
    Calls Tryz.prog 48 #[.string x] w fun e w' => e = .returned (.tuple #[.int .i64 (problemL x.data.toList).1, .int .i64 (problemL x.data.toList).2.1, .bool (problemL x.data.toList).2.2]) ∧ Below w.heap.size w w' := by
  have HP : Aside0 (problemL x.data.toList = problemW (splitC 32 (x.data.toList.count 32) x.data.toList)) := ⟨rfl⟩
  have HPT := Aside0.mk (fun p hp => splitC_part 32 (x.data.toList.count 32) x.data.toList p hp)
  have HE := Aside0.mk he
  clear he
  by_cases h4 : (splitC 32 (x.data.toList.count 32) x.data.toList).length = 4
  · obtain ⟨q0, q1, q2, q3, hq⟩ : ∃ q0 q1 q2 q3, splitC 32 (x.data.toList.count 32) x.data.toList = [q0, q1, q2, q3] := by
      match splitC 32 (x.data.toList.count 32) x.data.toList, h4 with
      | [q0, q1, q2, q3], _ => exact ⟨q0, q1, q2, q3, rfl⟩
    have HS := Aside0.mk (split4 x w hx q0 q1 q2 q3 hq)
    rw [hq] at HP HPT
    clear hq h4
    generalize problemL x.data.toList = r at *
    have HSH : Aside0 (∀ p : ByteArray, (∃ i j, i ≤ j ∧ j ≤ x.data.toList.length ∧ p.data.toList = (x.data.toList.drop i).take (j - i)) → p.size ≤ 262144 ∧ (wholeB p.data.toList = true → p.size ≤ 18 ∨ EVs w)) := ⟨fun p ⟨i, j, h1, h2, h3⟩ =>
      ⟨by rw [← data_length, h3, List.length_take, List.length_drop]; rw [data_length] at h2 ⊢; omega, fun hw => by rw [← data_length]; exact shorts_part HE.out h1 h2 h3 hw⟩⟩
    by_cases h0 : q0 = [112]
    · by_cases h1 : q1 = [99, 110, 102]
      · have HQ2 := Aside0.mk (HPT.out q2 (by simp))
        have HQ3 := Aside0.mk (HPT.out q3 (by simp))
        have HN : Aside0 (r = (if (countN q2 262144).2 = false then (0, 0, false) else ((countN q2 262144).1, (countN q3 524288).1, (countN q3 524288).2))) := ⟨by rw [HP.out, problemW, if_neg (fun h => h h0), if_neg (fun h => h h1)]⟩
        have HQ0 := Aside0.mk h0
        have HQ1 := Aside0.mk h1
        clear h0 h1 HP HPT HE hx
        cases hk : (countN q2 262144).2 with
        | false =>
          rw [if_pos hk] at HN
          have HK := Aside0.mk hk
          clear hk
          go_enter Tryz.func48, Tryz.ntmps48
          go_wp2_with (first | ((with_reducible refine (HS.out).mono ?_); rintro e w1 ⟨p0, p1, p2, p3, ⟨e0, e1, e2, e3⟩, rfl, hw1⟩; have d0 : (p0.toList != [112]) = false := (by rw [bne_eq_false_iff_eq, Lib.toList_data, e0]; exact HQ0.out); have d0' : (p0.toList == [112]) = true := (by rw [beq_iff_eq, Lib.toList_data, e0]; exact HQ0.out); have d1 : (p1.toList != [99, 110, 102]) = false := (by rw [bne_eq_false_iff_eq, Lib.toList_data, e1]; exact HQ1.out); have d1' : (p1.toList == [99, 110, 102]) = true := (by rw [beq_iff_eq, Lib.toList_data, e1]; exact HQ1.out); have HC2 := Aside0.mk (fun W hW => count_any p2 262144 W (HSH.out p2 (by rw [e2]; exact HQ2.out)).1 (fun hw => ((HSH.out p2 (by rw [e2]; exact HQ2.out)).2 hw).imp id (fun h => h.below (hW : Below w.heap.size w W)))); rw [e2] at HC2; have hb4 := cells4 w 9 (.string p0) (.string p1) (.string p2) (.string p3); rw [← hw1] at hb4; have HB1 : Aside0 (Below w.heap.size w w1) := (by rw [hw1]; exact ⟨below_alloc (Below.refl _ _) _⟩); have k0 := (blk_cell hb4 0).trans rfl; have k1 := (blk_cell hb4 1).trans rfl; have k2 := (blk_cell hb4 2).trans rfl; clear hw1 e0 e1 e2 e3 hb4) | ((with_reducible refine (HC2.out _ HB1.out).mono ?_); rintro e w2 ⟨rfl, hb2⟩; rw [HK.out]; have HB2 := Aside0.mk hb2; clear hb2))
          go_ret3
          exact ⟨by rw [HN.out]; rfl, HB1.out.trans (HB2.out.mono HB1.out.size)⟩
        | true =>
          rw [if_neg (by rw [hk]; decide)] at HN
          have HK := Aside0.mk hk
          clear hk
          go_enter Tryz.func48, Tryz.ntmps48
          go_wp2_with (first | ((with_reducible refine (HS.out).mono ?_); rintro e w1 ⟨p0, p1, p2, p3, ⟨e0, e1, e2, e3⟩, rfl, hw1⟩; have d0 : (p0.toList != [112]) = false := (by rw [bne_eq_false_iff_eq, Lib.toList_data, e0]; exact HQ0.out); have d0' : (p0.toList == [112]) = true := (by rw [beq_iff_eq, Lib.toList_data, e0]; exact HQ0.out); have d1 : (p1.toList != [99, 110, 102]) = false := (by rw [bne_eq_false_iff_eq, Lib.toList_data, e1]; exact HQ1.out); have d1' : (p1.toList == [99, 110, 102]) = true := (by rw [beq_iff_eq, Lib.toList_data, e1]; exact HQ1.out); have HC2 := Aside0.mk (fun W hW => count_any p2 262144 W (HSH.out p2 (by rw [e2]; exact HQ2.out)).1 (fun hw => ((HSH.out p2 (by rw [e2]; exact HQ2.out)).2 hw).imp id (fun h => h.below (hW : Below w.heap.size w W)))); rw [e2] at HC2; have HC3 := Aside0.mk (fun W hW => count_any p3 524288 W (HSH.out p3 (by rw [e3]; exact HQ3.out)).1 (fun hw => ((HSH.out p3 (by rw [e3]; exact HQ3.out)).2 hw).imp id (fun h => h.below (hW : Below w.heap.size w W)))); rw [e3] at HC3; have hb4 := cells4 w 9 (.string p0) (.string p1) (.string p2) (.string p3); rw [← hw1] at hb4; have HB1 : Aside0 (Below w.heap.size w w1) := (by rw [hw1]; exact ⟨below_alloc (Below.refl _ _) _⟩); have HB4 := Aside0.mk hb4; have k0 := (blk_cell hb4 0).trans rfl; have k1 := (blk_cell hb4 1).trans rfl; have k2 := (blk_cell hb4 2).trans rfl; clear hw1 e0 e1 e2 e3 hb4) | ((with_reducible refine (HC2.out _ HB1.out).mono ?_); rintro e w2 ⟨rfl, hb2⟩; rw [HK.out]; have HB2 : Aside0 (Below w.heap.size w w2) := ⟨HB1.out.trans (hb2.mono HB1.out.size)⟩; have k3 := (blk_cell ((hb2.block _ (Array.getElem?_eq_some_iff.1 HB4.out).1).trans HB4.out) 3).trans rfl; clear hb2 k0 k1 k2) | ((with_reducible refine (HC3.out _ HB2.out).mono ?_); rintro e w3 ⟨rfl, hb3⟩; have HB3 : Aside0 (Below w.heap.size w w3) := ⟨HB2.out.trans (hb3.mono HB2.out.size)⟩; clear hb3))
          go_ret3
          exact ⟨by rw [HN.out]; rfl, HB3.out⟩
      · have HN : Aside0 (r = (0, 0, false)) := ⟨by rw [HP.out, problemW, if_neg (fun h => h h0), if_pos h1]⟩
        have HQ0 := Aside0.mk h0
        have HQ1 := Aside0.mk h1
        clear h0 h1 HP HPT HE HSH hx
        go_enter Tryz.func48, Tryz.ntmps48
        go_wp2_with ((with_reducible refine (HS.out).mono ?_); rintro e w1 ⟨p0, p1, p2, p3, ⟨e0, e1, e2, e3⟩, rfl, rfl⟩; have d0 : (p0.toList != [112]) = false := (by rw [bne_eq_false_iff_eq, Lib.toList_data, e0]; exact HQ0.out); have d0' : (p0.toList == [112]) = true := (by rw [beq_iff_eq, Lib.toList_data, e0]; exact HQ0.out); have d1 : (p1.toList != [99, 110, 102]) = true := (by rw [bne_iff_ne, Lib.toList_data, e1]; exact HQ1.out); have d1' : (p1.toList == [99, 110, 102]) = false := (by rw [beq_eq_false_iff_ne, Lib.toList_data, e1]; exact HQ1.out); clear e0 e1 e2 e3)
        go_ret3
        exact ⟨by rw [HN.out]; rfl, below_alloc (Below.refl _ _) _⟩
    · have HN : Aside0 (r = (0, 0, false)) := ⟨by rw [HP.out, problemW, if_pos h0]⟩
      have HQ0 := Aside0.mk h0
      clear h0 HP HPT HE HSH hx
      go_enter Tryz.func48, Tryz.ntmps48
      go_wp2_with ((with_reducible refine (HS.out).mono ?_); rintro e w1 ⟨p0, p1, p2, p3, ⟨e0, e1, e2, e3⟩, rfl, rfl⟩; have d0 : (p0.toList != [112]) = true := (by rw [bne_iff_ne, Lib.toList_data, e0]; exact HQ0.out); have d0' : (p0.toList == [112]) = false := (by rw [beq_eq_false_iff_ne, Lib.toList_data, e0]; exact HQ0.out); clear e0 e1 e2 e3)
      go_ret3
      exact ⟨by rw [HN.out]; rfl, below_alloc (Below.refl _ _) _⟩
  · have HS := Aside0.mk (splitX x w hx h4)
    have HN : Aside0 (problemL x.data.toList = (0, 0, false)) := ⟨by rw [HP.out, problemW_not h4]⟩
    clear h4 HP HPT HE hx
    go_enter Tryz.func48, Tryz.ntmps48
    go_wp2_with ((with_reducible refine (HS.out).mono ?_); rintro e w1 ⟨n, hn4, hnl, rfl, hb1⟩; have d4 : ((n : Int) != 4) = true := (by rw [bne_iff_ne]; omega); have d4' : ((n : Int) == 4) = false := (by rw [beq_eq_false_iff_ne]; omega); have HB1 := Aside0.mk hb1; clear hb1 hn4)
    go_ret3
    exact ⟨by rw [HN.out]; rfl, HB1.out⟩
end Go.Proofs.YtjfmoildblcjiaaGreatDoor.P7
end
