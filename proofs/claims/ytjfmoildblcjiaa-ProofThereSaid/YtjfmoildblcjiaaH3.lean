/- What is proved here: the contract of cnf.unit over a set of true literals. -/
import Derived.Test.YtjfmoildblcjiaaH2
import Derived.Test.YtjfmoildblcjiaaHM
namespace Go.Proofs.Ytjfmoildblcjiaa.H3
open Go.RowKit Go.Proofs.YtjfmoildblcjiaaW.PrintWords Go.Proofs.YtjfmoildblcjiaaW.PrintLast Go.Proofs.YtjfmoildblcjiaaW.PrintMore Go.Proofs.Ytjfmoildblcjiaa.H1 Go.Proofs.Ytjfmoildblcjiaa.H2 Go.Proofs.Ytjfmoildblcjiaa.HM

def unitL (S : List Int) : Int → List Int → Int × Bool
  | left, [] => (left, true)
  | left, x :: r => if x ∈ S then (0, false) else if -x ∈ S then unitL S left r else if x = left then unitL S left r else if left = 0 then unitL S x r else (0, false)
theorem unitL_in {S : List Int} {x left : Int} {r : List Int} (h : x ∈ S) : unitL S left (x :: r) = (0, false) := by rw [unitL, if_pos h]
theorem unitL_neg {S : List Int} {x left : Int} {r : List Int} (h : x ∉ S) (h1 : -x ∈ S) : unitL S left (x :: r) = unitL S left r := by rw [unitL, if_neg h, if_pos h1]
theorem unitL_same {S : List Int} {x left : Int} {r : List Int} (h : x ∉ S) (h1 : -x ∉ S) (h2 : x = left) : unitL S left (x :: r) = unitL S left r := by rw [unitL, if_neg h, if_neg h1, if_pos h2]
theorem unitL_new {S : List Int} {x left : Int} {r : List Int} (h : x ∉ S) (h1 : -x ∉ S) (h2 : ¬ x = left) (h3 : left = 0) : unitL S left (x :: r) = unitL S x r := by rw [unitL, if_neg h, if_neg h1, if_neg h2, if_pos h3]
theorem unitL_two {S : List Int} {x left : Int} {r : List Int} (h : x ∉ S) (h1 : -x ∉ S) (h2 : ¬ x = left) (h3 : ¬ left = 0) : unitL S left (x :: r) = (0, false) := by rw [unitL, if_neg h, if_neg h1, if_neg h2, if_neg h3]
theorem drop_rd {l : List Int} {i : Nat} (h : i < l.length) : l.drop i = rd l (i : Int) :: l.drop (i + 1) := by
  rw [List.drop_eq_getElem_cons h, rd, List.getD_eq_getElem?_getD, Int.toNat_natCast, List.getElem?_eq_getElem h]; rfl
theorem rd_mem {l : List Int} {i : Nat} (h : i < l.length) : rd l (i : Int) ∈ l := by
  rw [rd, List.getD_eq_getElem?_getD, Int.toNat_natCast, List.getElem?_eq_getElem h]; exact List.getElem_mem h

theorem uMap : Try.prog.underlying 93 = some (.map 3 3) := by kernel_rfl
theorem uInt : Try.prog.underlying 3 = some (.int .i64) := by kernel_rfl
theorem zInt (w : World) : (zeroValue 3).run Try.prog w = .ok (.int .i64 0) w := by kernel_rfl

set_option maxHeartbeats 2000000 in
set_option maxRecDepth 100000 in
theorem unit_any (A : Option Addr) (c : Nat) (l : List Int) (b : Nat) (S : List Int) (w : World) (hr : Kd.C (Kd.int .i64) w A l.length l) (_hc : l.length ≤ c) (hs : IsSet w b S) (hx : ∀ x ∈ l, -262144 ≤ x ∧ x ≤ 262144) :
    Calls Try.prog 70 #[.slice A l.length c, .map (some b)] w fun e w' => e = .returned (.tuple #[.int .i64 (unitL S 0 l).1, .bool (unitL S 0 l).2]) ∧ w' = w := by
  have HR := Aside0.mk hr
  have HM := Aside0.mk (Kd.C_max hr)
  have HS := Aside0.mk hs
  have HX := Aside0.mk hx
  clear hr hs hx
  go_enter Try.func70, Try.ntmps70
  go_wp2
  go_loopg [6, 11] (l.length) (fun kq v6 v11 w' => ∃ (i : Nat) (left : Int), Aside0 (i + kq = l.length) ∧ v6 = .int .i64 left ∧ v11 = .int .i64 (i : Int) ∧ Aside0 (unitL S 0 l = unitL S left (l.drop i)) ∧ w' = w)
  case atStart => exact ⟨0, 0, ⟨by omega⟩, rfl, rfl, ⟨rfl⟩, rfl⟩
  case round =>
    obtain ⟨i, left, HI, rfl, rfl, HA, rfl⟩ := hrel
    by_cases hlt : i < l.length
    · obtain ⟨k1, rfl⟩ : ∃ k1, gk = k1 + 1 := ⟨gk - 1, by have := HI.out; omega⟩
      have c0 : decide ((i : Int) < (l.length : Int)) = true := decide_eq_true (by omega)
      obtain ⟨ad, e1, hx⟩ := Kd.at_int HR.out (i : Int) (by omega) (by omega)
      cases e1
      have hx : wr.cell? (ad.add i) = some (.int .i64 (rd l i)) := hx
      have HD : Aside0 (l.drop i = rd l i :: l.drop (i + 1)) := ⟨drop_rd hlt⟩
      have hb := HX.out _ (rd_mem hlt)
      generalize rd l (i : Int) = x at *
      obtain ⟨hx0, hx1⟩ := hb
      by_cases m1 : x ∈ S
      · have hl1 := lookup_in HS.out uMap uInt m1
        have HE : Aside0 (unitL S 0 l = (0, false)) := ⟨by rw [HA.out, HD.out, unitL_in m1]⟩
        clear m1
        go_wp2
        go_ret2
        exact ⟨by rw [HE.out]; rfl, rfl⟩
      · have hl1 := lookup_out HS.out uMap uInt (zInt wr) m1
        by_cases m2 : -x ∈ S
        · have hl2 := lookup_in HS.out uMap uInt m2
          have HE : Aside0 (unitL S 0 l = unitL S left (l.drop (i + 1))) := ⟨by rw [HA.out, HD.out, unitL_neg m1 m2]⟩
          clear m1 m2
          go_wp2
          go_roundg k1
          case measure => omega
          case rel => exact ⟨i + 1, left, ⟨by have := HI.out; omega⟩, rfl, congrArg (Value.int .i64) (wrapn hlt HM.out), HE, rfl⟩
        · have hl2 := lookup_out HS.out uMap uInt (zInt wr) m2
          by_cases m3 : x = left
          · have HE : Aside0 (unitL S 0 l = unitL S left (l.drop (i + 1))) := ⟨by rw [HA.out, HD.out, unitL_same m1 m2 m3]⟩
            have d3 : (x == left) = true := beq_iff_eq.2 m3
            clear m1 m2 m3
            go_wp2
            go_roundg k1
            case measure => omega
            case rel => exact ⟨i + 1, left, ⟨by have := HI.out; omega⟩, rfl, congrArg (Value.int .i64) (wrapn hlt HM.out), HE, rfl⟩
          · have d3 : (x == left) = false := beq_eq_false_iff_ne.2 m3
            by_cases m4 : left = 0
            · have HE : Aside0 (unitL S 0 l = unitL S x (l.drop (i + 1))) := ⟨by rw [HA.out, HD.out, unitL_new m1 m2 m3 m4]⟩
              have d4 : (left != 0) = false := bne_eq_false_iff_eq.2 m4
              clear m1 m2 m3 m4
              go_wp2
              go_roundg k1
              case measure => omega
              case rel => exact ⟨i + 1, x, ⟨by have := HI.out; omega⟩, rfl, congrArg (Value.int .i64) (wrapn hlt HM.out), HE, rfl⟩
            · have HE : Aside0 (unitL S 0 l = (0, false)) := ⟨by rw [HA.out, HD.out, unitL_two m1 m2 m3 m4]⟩
              have d4 : (left != 0) = true := bne_iff_ne.2 m4
              clear m1 m2 m3 m4
              go_wp2
              go_ret2
              exact ⟨by rw [HE.out]; rfl, rfl⟩
    · have c0 : decide ((i : Int) < (l.length : Int)) = false := decide_eq_false (by omega)
      obtain rfl : i = l.length := by have := HI.out; omega
      have HE : Aside0 (unitL S 0 l = (left, true)) := ⟨by rw [HA.out, List.drop_length]; rfl⟩
      go_wp2
      go_ret2
      exact ⟨by rw [HE.out]; rfl, rfl⟩

end Go.Proofs.Ytjfmoildblcjiaa.H3
