/- What is proved here: the contract of cnf.Check. -/
import Derived.Test.YtjfmoildblcjiaaH1
namespace Go.Proofs.Ytjfmoildblcjiaa.H2
open Go.RowKit Go.Proofs.YtjfmoildblcjiaaW.PrintWords Go.Proofs.YtjfmoildblcjiaaW.PrintLast Go.Proofs.YtjfmoildblcjiaaW.PrintMore Go.Proofs.Ytjfmoildblcjiaa.H1

def checkL (v : Int) : Nat → List (List Int) → Int × Int
  | _, [] => (0, 0)
  | i, c :: r => if litsE c v = 0 then checkL v (i + 1) r else ((i : Int), litsE c v)
def checkE (v : Int) (cs : List (List Int)) : Int × Int :=
  if v < 0 then (0, 1) else if v > 262144 then (0, 1) else if (cs.length : Int) > 524288 then (0, 2) else checkL v 0 cs

theorem getD_drop {α : Type} {l : List α} {i : Nat} {d : α} (h : i < l.length) : l.drop i = l.getD i d :: l.drop (i + 1) := by
  rw [List.drop_eq_getElem_cons h, List.getD_eq_getElem?_getD, List.getElem?_eq_getElem h]; rfl
def rdL (xs : List (List Int)) (i : Int) : List Int := xs.getD i.toNat []
theorem at_L {e : Nat} {w : World} {A : Option Addr} {n : Nat} {xs : List (List Int)} (h : Kd.C (Kd.slice e (Kd.int .i64)) w A n xs) (i : Int) (h0 : 0 ≤ i) (h1 : i < n) : ∃ ad A0 c0, A = some ad ∧ w.cell? (ad.add i.toNat) = some (.slice A0 (rdL xs i).length c0) ∧ (rdL xs i).length ≤ c0 ∧ (Kd.int .i64).C w A0 (rdL xs i).length (rdL xs i) := by
  obtain ⟨ad, c, e, _, hK, hc0⟩ := Kd.C_get h ([] : List Int) i h0 h1
  have hc : ∀ j u, c[j]? = some u → w.cell? (ad.add (i.toNat * 1 + j)) = some u := hc0
  obtain ⟨A0, c0, rfl, l0, g0⟩ := hK
  exact ⟨ad, A0, c0, e, by have hq := hc 0 _ rfl; rwa [Nat.mul_one, Nat.add_zero] at hq, l0, g0⟩

set_option maxHeartbeats 2000000 in
set_option maxRecDepth 100000 in
theorem check_any (v : Int) (A : Option Addr) (c : Nat) (cs : List (List Int)) (w : World) (hr : Kd.C (Kd.slice 3 (Kd.int .i64)) w A cs.length cs) (_hc : cs.length ≤ c) :
    Calls Try.prog 17 #[.agg #[.int .i64 v, .slice A cs.length c]] w fun e w' => e = .returned (.tuple #[.int .i64 (checkE v cs).1, .int .i64 (checkE v cs).2]) ∧ Below w.heap.size w w' := by
  have HR := Aside0.mk hr
  have HM := Aside0.mk (Kd.C_max hr)
  clear hr
  by_cases h0 : v < 0
  · have HE : Aside0 (checkE v cs = (0, 1)) := ⟨by unfold checkE; rw [if_pos h0]⟩
    have h0' : decide (v < 0) = true := decide_eq_true h0
    clear h0
    go_enter Try.func17, Try.ntmps17
    go_wp2
    go_ret2
    exact ⟨by rw [HE.out]; rfl, below_alloc (Below.refl _ _) _⟩
  · have h0' : decide (v < 0) = false := decide_eq_false h0
    by_cases h1 : v > 262144
    · have HE : Aside0 (checkE v cs = (0, 1)) := ⟨by unfold checkE; rw [if_neg h0, if_pos h1]⟩
      have h1' : decide (v > 262144) = true := decide_eq_true h1
      clear h0 h1
      go_enter Try.func17, Try.ntmps17
      go_wp2
      go_ret2
      exact ⟨by rw [HE.out]; rfl, below_alloc (Below.refl _ _) _⟩
    · have h1' : decide (v > 262144) = false := decide_eq_false h1
      by_cases h2 : (cs.length : Int) > 524288
      · have HE : Aside0 (checkE v cs = (0, 2)) := ⟨by unfold checkE; rw [if_neg h0, if_neg h1, if_pos h2]⟩
        have h2' : decide ((cs.length : Int) > 524288) = true := decide_eq_true h2
        clear h0 h1 h2
        go_enter Try.func17, Try.ntmps17
        go_wp2
        go_ret2
        exact ⟨by rw [HE.out]; rfl, below_alloc (Below.refl _ _) _⟩
      · have h2' : decide ((cs.length : Int) > 524288) = false := decide_eq_false h2
        have HE : Aside0 (checkE v cs = checkL v 0 cs) := ⟨by unfold checkE; rw [if_neg h0, if_neg h1, if_neg h2]⟩
        have H0 := Aside0.mk h0
        have H1 := Aside0.mk h1
        clear h0 h1 h2
        go_enter Try.func17, Try.ntmps17
        go_wp2
        go_loopg [22] (cs.length) (fun kq v22 w' => ∃ i : Nat, Aside0 (i + kq = cs.length) ∧ v22 = .int .i64 (i : Int) ∧ Aside0 (checkE v cs = checkL v i (cs.drop i)) ∧ Aside0 (Below (w.heap.size + 1) (w.alloc (.cells #[.int .i64 v, .slice A cs.length c] 24)) w'))
        case atStart => exact ⟨0, ⟨by omega⟩, rfl, ⟨HE.out⟩, ⟨Below.refl _ _⟩⟩
        case round =>
          obtain ⟨i, HI, rfl, HA, HB⟩ := hrel
          have k0 : wr.cell? ⟨w.heap.size, 0, none⟩ = some (.int .i64 v) := (HB.out.cell (p := ⟨w.heap.size, 0, none⟩) (Nat.lt_succ_self _)).trans (by simp)
          have hB : Below w.heap.size w wr := (below_alloc (Below.refl _ _) _).trans (HB.out.mono (Nat.le_succ _))
          by_cases hlt : i < cs.length
          · obtain ⟨k1, rfl⟩ : ∃ k1, gk = k1 + 1 := ⟨gk - 1, by have := HI.out; omega⟩
            have c0 : decide ((i : Int) < (cs.length : Int)) = true := decide_eq_true (by omega)
            obtain ⟨ad, A0, cc, e1, hx, hl, hC⟩ := at_L (Kd.C_below HR.out hB) (i : Int) (by omega) (by omega)
            cases e1
            have hx : wr.cell? (ad.add i) = some (.slice A0 (rdL cs i).length cc) := hx
            have HD : Aside0 (cs.drop i = rdL cs i :: cs.drop (i + 1)) := ⟨getD_drop hlt⟩
            generalize rdL cs (i : Int) = l at *
            have HC := Aside0.mk hC
            have HL := Aside0.mk hl
            have HBW := Aside0.mk hB
            clear hC hl hB
            by_cases he : litsE l v = 0
            · have HV := Aside0.mk he
              have HS : Aside0 (checkL v i (cs.drop i) = checkL v (i + 1) (cs.drop (i + 1))) := ⟨by rw [HD.out]; exact if_pos he⟩
              have d0 : (litsE l v != 0) = false := bne_eq_false_iff_eq.2 he
              clear he
              go_wp2_with ((with_reducible refine (literals_any _ _ l v _ HC.out HL.out H0.out H1.out).mono ?_); rintro e w1 ⟨rfl, hb1⟩; have HB1 := Aside0.mk hb1; clear hb1)
              go_roundg k1
              case measure => omega
              case rel => exact ⟨i + 1, ⟨by have := HI.out; omega⟩, congrArg (Value.int .i64) (wrapn hlt HM.out), ⟨HA.out.trans HS.out⟩, ⟨HB.out.trans (HB1.out.mono (by have := HB.out.size; simpa using this))⟩⟩
            · have HV := Aside0.mk he
              have HS : Aside0 (checkL v i (cs.drop i) = ((i : Int), litsE l v)) := ⟨by rw [HD.out]; exact if_neg he⟩
              have d0 : (litsE l v != 0) = true := bne_iff_ne.2 he
              clear he
              go_wp2_with ((with_reducible refine (literals_any _ _ l v _ HC.out HL.out H0.out H1.out).mono ?_); rintro e w1 ⟨rfl, hb1⟩; have HB1 := Aside0.mk hb1; clear hb1)
              go_ret2
              exact ⟨by rw [HA.out, HS.out]; rfl, HBW.out.trans (HB1.out.mono HBW.out.size)⟩
          · have c0 : decide ((i : Int) < (cs.length : Int)) = false := decide_eq_false (by omega)
            obtain rfl : i = cs.length := by have := HI.out; omega
            have HS : Aside0 (checkL v cs.length (cs.drop cs.length) = (0, 0)) := ⟨by rw [List.drop_length]; rfl⟩
            have HBW := Aside0.mk hB
            clear hB
            go_wp2
            go_ret2
            exact ⟨by rw [HA.out, HS.out]; rfl, HBW.out⟩

end Go.Proofs.Ytjfmoildblcjiaa.H2
